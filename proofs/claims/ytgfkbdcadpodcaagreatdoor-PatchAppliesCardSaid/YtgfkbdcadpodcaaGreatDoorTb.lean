/-
  What the functions that the statements about layer 46 (patch) reach compute, part 2 of 4: contracts and plain laws, for lists and strings of bounded size (each theorem states its bound).
-/
import Derived.Test.YtgfkbdcadpodcaaGreatDoorTa
import Derived.WalkKit
import Derived.Lib.Builder
import Derived.Lib.UnsafeStr
import Derived.Laws.Externs
import Derived.RegionTactic
import Derived.Test.YtgfkbdcadpodcaaGreatDoorWc
import Derived.Lib.Bytealg

set_option linter.unusedSimpArgs false
set_option linter.unusedVariables false

namespace Go.Proofs.Tz
open Go.Vw Go.Lib
set_option linter.unusedSimpArgs false

theorem nodup_sub_len {α : Type} [DecidableEq α] : ∀ {a b : List α}, a.Nodup → (∀ x ∈ a, x ∈ b) → a.length ≤ b.length
  | [], _, _, _ => Nat.zero_le _
  | x :: a, b, hn, hs => by
    have hp := List.nodup_cons.1 hn
    have hx := hs x (by simp)
    have ih := nodup_sub_len (a := a) (b := b.erase x) hp.2 fun y hy => (List.mem_erase_of_ne (fun e : y = x => hp.1 (e ▸ hy))).2 (hs y (by simp [hy]))
    rw [List.length_erase_of_mem hx] at ih
    have := List.length_pos_of_mem hx
    simp only [List.length_cons]; omega

theorem isLetter_low (c : UInt8) : isLetter (lowc c) = isLetter c := by
  by_cases h : 65 ≤ (c.toNat : Int) ∧ (c.toNat : Int) ≤ 90
  · have e := lowc_toNat c h.1 h.2
    have h1 : isLetter c = true := by simp only [isLetter, Bool.or_eq_true, Bool.and_eq_true, decide_eq_true_eq]; omega
    have h2 : isLetter (lowc c) = true := by simp only [isLetter, Bool.or_eq_true, Bool.and_eq_true, decide_eq_true_eq]; omega
    rw [h1, h2]
  · rw [lowc, if_neg h]
theorem nameC_low (c : UInt8) : nameC (lowc c) = nameC c := by
  by_cases h : 65 ≤ (c.toNat : Int) ∧ (c.toNat : Int) ≤ 90
  · have e := lowc_toNat c h.1 h.2
    have h1 : isLetter c = true := by simp only [isLetter, Bool.or_eq_true, Bool.and_eq_true, decide_eq_true_eq]; omega
    rw [nameC, nameC, isLetter_low, h1]; simp
  · rw [lowc, if_neg h]
theorem nameB_low (s : Str) : nameB (lower s) = nameB s := by
  have h1 : (lower s).head?.any isLetter = s.head?.any isLetter := by
    cases s with
    | nil => rfl
    | cons c s => simp [lower, isLetter_low]
  have h2 : (lower s).all nameC = s.all nameC := by
    rw [Bool.eq_iff_iff, List.all_eq_true, List.all_eq_true]
    simp only [lower, List.mem_map, forall_exists_index, and_imp, forall_apply_eq_imp_iff₂, nameC_low]
  rw [nameB, nameB, h1, h2, lower_len]

theorem chkA_zero : ∀ (l b : List Att), chkA b l = 0 ↔ (∀ a ∈ l, nameB a.1 = true ∧ (∀ c ∈ b, lower c.1 ≠ lower a.1) ∧ a.2 ≠ [] ∧ a.2.length ≤ 16 ∧ chkV [] [] a.2 = 0) ∧ (l.map fun a => lower a.1).Nodup
  | [], b => by simp [chkA]
  | a :: l, b => by
    rw [chkA]
    by_cases h1 : nameB a.1 = false
    · simp [h1]
    have h1' : nameB a.1 = true := by simpa using h1
    rw [if_neg h1]
    by_cases h2 : (b.any fun c => decide (lower c.1 = lower a.1)) = true
    · rw [if_pos h2]
      obtain ⟨c, hc, he⟩ := List.any_eq_true.1 h2
      constructor
      · intro h; simp at h
      · rintro ⟨h, _⟩
        exact absurd (by simpa using he) ((h a (by simp)).2.1 c hc)
    have h2' : ∀ c ∈ b, lower c.1 ≠ lower a.1 := fun c hc e => h2 (List.any_eq_true.2 ⟨c, hc, by simpa using e⟩)
    rw [if_neg h2]
    by_cases h3 : a.2.length = 0
    · rw [if_pos h3]
      have : a.2 = [] := List.length_eq_zero_iff.1 h3
      simp [this]
    have h3' : a.2 ≠ [] := fun e => h3 (by rw [e]; rfl)
    rw [if_neg h3]
    by_cases h4 : 16 < a.2.length
    · rw [if_pos h4]
      constructor
      · intro h; simp at h
      · rintro ⟨h, _⟩
        have := (h a (by simp)).2.2.2.1
        omega
    rw [if_neg h4]
    by_cases h5 : chkV [] [] a.2 ≠ 0
    · rw [if_pos h5]
      constructor
      · intro h; exact absurd h h5
      · rintro ⟨h, _⟩
        exact absurd (h a (by simp)).2.2.2.2 h5
    have h5' : chkV [] [] a.2 = 0 := by simpa using h5
    rw [if_neg h5, chkA_zero l (b ++ [a])]
    simp only [List.mem_cons, forall_eq_or_imp, List.mem_append, List.mem_nil_iff, or_false, List.map_cons, List.nodup_cons]
    constructor
    · rintro ⟨g1, g2⟩
      refine ⟨⟨⟨h1', h2', h3', by omega, h5'⟩, fun x hx => ⟨(g1 x hx).1, fun c hc => (g1 x hx).2.1 c (.inl hc), (g1 x hx).2.2⟩⟩, fun hm => ?_, g2⟩
      obtain ⟨x, hx, e⟩ := List.mem_map.1 hm
      exact (g1 x hx).2.1 a (.inr rfl) e.symm
    · rintro ⟨⟨_, g1⟩, g2, g3⟩
      refine ⟨fun x hx => ⟨(g1 x hx).1, fun c hc => ?_, (g1 x hx).2.2⟩, g3⟩
      rcases hc with hc | rfl
      · exact (g1 x hx).2.1 c hc
      · exact fun e => g2 (List.mem_map.2 ⟨x, hx, e.symm⟩)

structure Valid (l : List Att) : Prop where
  len : l.length ≤ 32
  each : ∀ a ∈ l, nameB a.1 = true ∧ a.2 ≠ [] ∧ a.2.length ≤ 16 ∧ ∀ v ∈ a.2, cleanB v = true
  nod : ∀ a ∈ l, a.2.Nodup
  names : (l.map fun a => lower a.1).Nodup
theorem check_iff (l : List Att) : checkL l = 0 ↔ Valid l := by
  rw [checkL]
  by_cases h : 32 < l.length
  · rw [if_pos h]
    constructor
    · intro h; simp at h
    · intro v; have := v.len; omega
  · rw [if_neg h, chkA_zero]
    constructor
    · rintro ⟨h1, h2⟩
      exact ⟨by omega, fun a ha => ⟨(h1 a ha).1, (h1 a ha).2.2.1, (h1 a ha).2.2.2.1, fun v hv => (((chkV_zero [] a.2 []).1 (h1 a ha).2.2.2.2).1 v hv).1⟩, fun a ha => ((chkV_zero [] a.2 []).1 (h1 a ha).2.2.2.2).2, h2⟩
    · intro v
      exact ⟨fun a ha => ⟨(v.each a ha).1, by simp, (v.each a ha).2.1, (v.each a ha).2.2.1, (chkV_zero [] a.2 []).2 ⟨fun x hx => ⟨(v.each a ha).2.2.2 x hx, by simp, by simp⟩, v.nod a ha⟩⟩, v.names⟩
theorem valid_sorted {r : List Att} (h1 : (sortedL r).length ≤ 32) (h2 : ∀ n v, HasL r n v → nameB n = true ∧ cleanB v = true) (h3 : ∀ n, (getL r n).length ≤ 16) : Valid (sortedL r) := by
  have hN := nf_sorted r
  refine ⟨h1, fun x hx => ?_, fun x hx => (hN.vals x hx).nodup, ?_⟩
  · have hne := hN.ne x hx
    have hin : ∀ v ∈ x.2, HasL r x.1 v := fun v hv => (sorted_has r x.1 v).1 ⟨x, hx, rfl, hv⟩
    obtain ⟨v, hv⟩ := List.exists_mem_of_ne_nil _ hne
    refine ⟨(h2 _ _ (hin v hv)).1, hne, ?_, fun u hu => (h2 _ _ (hin u hu)).2⟩
    have e : getL r x.1 = x.2 := SS_ext (SS_getL _ _) (hN.vals x hx) fun u => by
      rw [mem_getL, sorted_low hx]
      constructor
      · intro h
        obtain ⟨y, hy, e, hu⟩ := (sorted_has r x.1 u).2 h
        rw [← nf_inj hN hy hx e]; exact hu
      · exact hin u
    rw [← e]; exact h3 x.1
  · have : ((sortedL r).map fun a => lower a.1) = (sortedL r).map (·.1) := List.map_congr_left fun x hx => sorted_low hx
    rw [this]
    exact hN.names.nodup
theorem getL_nil_or {l : List Att} (n : Str) : getL l n = [] ∨ ∃ x ∈ sortedL l, x.1 = lower n ∧ x.2 = getL l n := by
  have key : ∀ s : List Att, findA (lower n) s = [] ∨ ∃ x ∈ s, x.1 = lower n ∧ x.2 = findA (lower n) s := by
    intro s
    induction s with
    | nil => exact .inl rfl
    | cons a s ih =>
      rw [findA]
      split
      · rename_i h; exact .inr ⟨a, by simp, h, rfl⟩
      · rcases ih with h | ⟨x, hx, h⟩
        · exact .inl h
        · exact .inr ⟨x, by simp [hx], h⟩
  exact key _
theorem Valid.get {l : List Att} (h : Valid l) (n : Str) : (getL l n).length ≤ 16 := by
  by_cases he : getL l n = []
  · simp [he]
  obtain ⟨v, hv⟩ := List.exists_mem_of_ne_nil _ he
  obtain ⟨a, ha, ea, _⟩ := (mem_getL l n v).1 hv
  refine Nat.le_trans (nodup_sub_len (SS_getL l n).nodup fun u hu => ?_) (h.each a ha).2.2.1
  obtain ⟨b, hb, eb, hu⟩ := (mem_getL l n u).1 hu
  have : b = a := by
    obtain ⟨i, hi, rfl⟩ := List.mem_iff_getElem.1 ha
    obtain ⟨j, hj, rfl⟩ := List.mem_iff_getElem.1 hb
    have := nodup_inj h.names (i := i) (j := j) (by simpa using hi) (by simpa using hj) (by simp [ea, eb])
    subst this; rfl
  rw [← this]; exact hu
theorem Valid.has {l : List Att} (h : Valid l) {n v : Str} (hh : HasL l n v) : nameB n = true ∧ cleanB v = true := by
  obtain ⟨a, ha, rfl, hv⟩ := hh
  exact ⟨by rw [nameB_low]; exact (h.each a ha).1, (h.each a ha).2.2.2 v hv⟩
theorem Valid.sorted {l : List Att} (h : Valid l) : Valid (sortedL l) :=
  valid_sorted (Nat.le_trans (sorted_len l) h.len) (fun _ _ hh => h.has hh) h.get
theorem getL_set' (l : List Att) (name : Str) (w : List Str) (n : Str) : getL (setL (sortedL l) name w) n = if lower name = lower n then getL (setL (sortedL l) name w) name else getL l n := by
  split
  · rename_i h
    simp only [getL, h]
  · rename_i h; exact getL_other l w h
theorem Valid.set {l : List Att} (h : Valid l) {name : Str} {w : List Str} (hn : nameB name = true) (hw : ∀ v ∈ w, cleanB v = true) (h32 : (setL (sortedL l) name w).length ≤ 32) (h16 : (getL (setL (sortedL l) name w) name).length ≤ 16) : Valid (setL (sortedL l) name w) := by
  have hH := hasL_set l name w
  have hG := getL_set' l name w
  have key : Valid (sortedL (setL (sortedL l) name w)) := by
    have hi : sortedL (setL (sortedL l) name w) = setL (sortedL l) name w := by rw [setL, sorted_idem]
    refine valid_sorted (by rw [hi]; exact h32) (fun n v hh => ?_) (fun n => ?_)
    · rcases (hH n v).1 hh with ⟨_, h1⟩ | ⟨rfl, h1⟩
      · exact h.has h1
      · exact ⟨by rw [nameB_low]; exact hn, hw v h1⟩
    · rw [hG n]
      split
      · exact h16
      · exact h.get n
  have hi : sortedL (setL (sortedL l) name w) = setL (sortedL l) name w := by rw [setL, sorted_idem]
  rw [hi] at key
  exact key
theorem limL_ok {l : List Att} {name : Str} (h : (limL l name).2 = 0) : (limL l name).1 = l ∧ l.length ≤ 32 ∧ (getL l name).length ≤ 16 := by
  unfold limL at h ⊢
  split at h
  · simp at h
  · rename_i hc
    rw [if_neg hc]
    simp only [not_or] at hc
    exact ⟨rfl, by omega, by omega⟩

theorem addP_ok {l : List Att} {name : Str} {v : List Str} (h : (addP l name v).2 = 0) : nameB name = true ∧ v ≠ [] ∧ chkV (getL l name) [] v = 0 ∧ (addP l name v).1 = setL (sortedL l) name (getL l name ++ v) ∧ (addP l name v).1.length ≤ 32 ∧ (getL (addP l name v).1 name).length ≤ 16 := by
  unfold addP at h ⊢
  split at h
  · simp at h
  rename_i h1
  split at h
  · simp at h
  rename_i h2
  split at h
  · rename_i h3; exact absurd h h3
  rename_i h3
  rw [if_neg h1, if_neg h2, if_neg h3]
  obtain ⟨a, b, c⟩ := limL_ok h
  rw [a]
  exact ⟨by simpa using h1, h2, by simpa using h3, rfl, b, c⟩
theorem replP_ok {l : List Att} {name : Str} {v : List Str} (h : (replP l name v).2 = 0) : nameB name = true ∧ chkV [] [] v = 0 ∧ (replP l name v).1 = setL (sortedL l) name v ∧ (replP l name v).1.length ≤ 32 ∧ (getL (replP l name v).1 name).length ≤ 16 := by
  unfold replP at h ⊢
  split at h
  · simp at h
  rename_i h1
  split at h
  · rename_i h3; exact absurd h h3
  rename_i h2
  split at h
  · simp at h
  rename_i h3
  rw [if_neg h1, if_neg h2, if_neg h3]
  obtain ⟨a, b, c⟩ := limL_ok h
  rw [a]
  exact ⟨by simpa using h1, by simpa using h2, rfl, b, c⟩
theorem removeP_ok {l : List Att} {name : Str} {v : List Str} (h : (removeP l name v).2 = 0) : nameB name = true ∧ getL l name ≠ [] ∧ ∃ o, (∀ x ∈ o, x ∈ getL l name) ∧ (removeP l name v).1 = setL (sortedL l) name o ∧ (v ≠ [] → o = (getL l name).filter fun x => !decide (x ∈ v)) := by
  unfold removeP at h ⊢
  split at h
  · simp at h
  rename_i h1
  split at h
  · simp at h
  rename_i h2
  rw [if_neg h1, if_neg h2]
  refine ⟨by simpa using h1, h2, ?_⟩
  split at h
  · rename_i h3
    rw [if_pos h3]
    exact ⟨[], by simp, rfl, fun hv => absurd h3 hv⟩
  · rename_i h3
    rw [if_neg h3]
    rcases remV_spec v (getL l name) (SS_getL l name).nodup with ⟨a, b⟩ | ⟨o, a, b, c⟩
    · rw [a] at h; simp [remO] at h
    · rw [a]
      exact ⟨o, fun x hx => by rw [c] at hx; exact (List.mem_filter.1 hx).1, rfl, fun _ => c⟩

theorem Valid.add {l : List Att} (h : Valid l) {name : Str} {v : List Str} (h0 : (addP l name v).2 = 0) : Valid (addP l name v).1 := by
  obtain ⟨h1, h2, h3, h4, h5, h6⟩ := addP_ok h0
  rw [h4] at h5 h6 ⊢
  refine h.set h1 (fun x hx => ?_) h5 h6
  rcases List.mem_append.1 hx with hx | hx
  · exact (h.has ((mem_getL l name x).1 hx)).2
  · exact (((chkV_zero _ _ _).1 h3).1 x hx).1
theorem Valid.replace {l : List Att} (h : Valid l) {name : Str} {v : List Str} (h0 : (replP l name v).2 = 0) : Valid (replP l name v).1 := by
  obtain ⟨h1, h3, h4, h5, h6⟩ := replP_ok h0
  rw [h4] at h5 h6 ⊢
  exact h.set h1 (fun x hx => (((chkV_zero _ _ _).1 h3).1 x hx).1) h5 h6
theorem Valid.remove {l : List Att} (h : Valid l) {name : Str} {v : List Str} (h0 : (removeP l name v).2 = 0) : Valid (removeP l name v).1 := by
  obtain ⟨h1, h2, o, h3, h4, _⟩ := removeP_ok h0
  rw [h4]
  refine h.set h1 (fun x hx => (h.has ((mem_getL l name x).1 (h3 x hx))).2) ?_ ?_
  · refine Nat.le_trans ?_ h.sorted.len
    have hN : NF (setL (sortedL l) name o) := nf_sorted _
    have := nodup_sub_len (a := (setL (sortedL l) name o).map (·.1)) (b := (sortedL l).map (·.1)) hN.names.nodup fun n hn => by
      obtain ⟨x, hx, rfl⟩ := List.mem_map.1 hn
      obtain ⟨u, hu⟩ := List.exists_mem_of_ne_nil _ (hN.ne x hx)
      have hh : HasL (setL (sortedL l) name o) x.1 u := ⟨x, hx, sorted_low (l := (((sortedL l).filter fun x => !decide (x.1 = lower name)) ++ [(lower name, o)])) hx, hu⟩
      have hl : HasL l x.1 u := by
        rcases (hasL_set l name o x.1 u).1 hh with ⟨_, h5⟩ | ⟨e, h5⟩
        · exact h5
        · rw [e]; exact (mem_getL l name u).1 (h3 u h5)
      obtain ⟨y, hy, e, _⟩ := (sorted_has l x.1 u).2 hl
      exact List.mem_map.2 ⟨y, hy, e⟩
    simpa using this
  · refine Nat.le_trans (nodup_sub_len (SS_getL _ _).nodup fun x hx => ?_) (h.get name)
    exact h3 x ((getL_set l name o x).1 hx)

/-! ### what was added can be removed -/
theorem undone {l : List Att} {name : Str} {v : List Str} (h0 : (addP l name v).2 = 0) : removeP (addP l name v).1 name v = (sortedL l, 0) ∧ ∀ x ∈ v, x ∈ getL (addP l name v).1 name := by
  obtain ⟨h1, h2, h3, h4, _⟩ := addP_ok h0
  rw [h4]
  obtain ⟨c1, c2⟩ := (chkV_zero _ _ _).1 h3
  have hg : ∀ x, x ∈ getL (setL (sortedL l) name (getL l name ++ v)) name ↔ x ∈ getL l name ∨ x ∈ v := fun x => by rw [getL_set, List.mem_append]
  have hin : ∀ x ∈ v, x ∈ getL (setL (sortedL l) name (getL l name ++ v)) name := fun x hx => (hg x).2 (.inr hx)
  refine ⟨?_, hin⟩
  unfold removeP
  rw [if_neg (by simp [h1]), if_neg, if_neg h2]
  · rcases remV_spec v (getL (setL (sortedL l) name (getL l name ++ v)) name) (SS_getL _ name).nodup with ⟨a, b⟩ | ⟨o, a, b, c⟩
    · exact absurd ⟨hin, c2⟩ b
    · rw [a, remO, c]
      refine Prod.ext ?_ rfl
      simp only
      rw [setL]
      refine sorted_ext fun n x => ?_
      rw [hasL_app, hasL_fil, hasL_one, lower_lower, hasL_set]
      simp only [List.mem_filter, hg, List.mem_append, Bool.not_eq_true', decide_eq_false_iff_not]
      constructor
      · rintro (⟨e1, ⟨_, h⟩ | ⟨e2, _⟩⟩ | ⟨rfl, h | h, h'⟩)
        · exact h
        · exact absurd e2 e1
        · exact (mem_getL l name x).1 h
        · exact absurd h h'
      · intro h
        by_cases e : n = lower name
        · subst e
          have hm := (mem_getL l name x).2 h
          exact .inr ⟨rfl, .inl hm, fun hv => (c1 x hv).2.1 hm⟩
        · exact .inl ⟨e, .inl ⟨e, h⟩⟩
  · obtain ⟨x, hx⟩ := List.exists_mem_of_ne_nil _ h2
    exact List.ne_nil_of_mem (hin x hx)

/-! ### other attributes do not change -/
theorem add_other {l : List Att} {name other : Str} {v : List Str} (h0 : (addP l name v).2 = 0) (h : ¬ lower name = lower other) : getL (addP l name v).1 other = getL l other := by
  rw [(addP_ok h0).2.2.2.1]; exact getL_other l _ h
theorem repl_other {l : List Att} {name other : Str} {v : List Str} (h0 : (replP l name v).2 = 0) (h : ¬ lower name = lower other) : getL (replP l name v).1 other = getL l other := by
  rw [(replP_ok h0).2.2.1]; exact getL_other l _ h
theorem rem_other {l : List Att} {name other : Str} {v : List Str} (h0 : (removeP l name v).2 = 0) (h : ¬ lower name = lower other) : getL (removeP l name v).1 other = getL l other := by
  obtain ⟨_, _, o, _, h4, _⟩ := removeP_ok h0
  rw [h4]; exact getL_other l _ h
theorem repl_get {l : List Att} {name : Str} {v : List Str} (h0 : (replP l name v).2 = 0) : (∀ x ∈ v, x ∈ getL (replP l name v).1 name) ∧ (getL (replP l name v).1 name).length = v.length := by
  rw [(replP_ok h0).2.2.1]
  exact ⟨fun x hx => (getL_set l name v x).2 hx, getL_set_len l name ((chkV_zero _ _ _).1 (replP_ok h0).2.1).2⟩
end Go.Proofs.Tz

/- strings.Builder: copyCheck. -/
set_option linter.unusedVariables false
namespace Go.Proofs.Tz
open Go.Vw Go.RowKit Go.Proofs

/-- strings.Builder's size. -/
theorem bld_size : (Tryz.prog.info? 83).map (·.size) = some 2 := by kernel_rfl
theorem bld_lies : liesAt Tryz.prog Tryz.prog.depth 83 (2 / Tryz.prog.cellsOf 83) 0 83 1 = true := by kernel_rfl

set_option maxRecDepth 100000 in
set_option maxHeartbeats 1000000 in
theorem cc_used (b : Nat) (w : World) (h0 : w.cell? ⟨b, 0, none⟩ = some (.pointer (some ⟨b, 0, none⟩))) :
    Calls Tryz.prog 104 #[.pointer (some ⟨b, 0, none⟩)] w fun e w' => e = .returned (.tuple #[]) ∧ w' = w := by
  obtain ⟨j, hj, _⟩ := Option.map_eq_some_iff.1 bld_size
  go_enter Tryz.func104, Tryz.ntmps104
  go_wp2
  rw [Lib.run_neq_ptr_same w _ Tryz.underlying80 hj]
  go_wp2
  go_end0
  exact ⟨rfl, rfl⟩

set_option maxRecDepth 100000 in
set_option maxHeartbeats 1000000 in
theorem cc_fresh (b : Nat) (w : World) (h0 : w.cell? ⟨b, 0, none⟩ = some (.pointer none)) (hsh : w.shape? b = some (83, 2)) (hfz : w.frozen? ⟨b, 0, none⟩ = false) :
    Calls Tryz.prog 104 #[.pointer (some ⟨b, 0, none⟩)] w fun e w' => e = .returned (.tuple #[]) ∧ w' = w.setCell ⟨b, 0, none⟩ (.pointer (some ⟨b, 0, none⟩)) := by
  obtain ⟨j, hj, hjs⟩ := Option.map_eq_some_iff.1 bld_size
  go_enter Tryz.func104, Tryz.ntmps104
  go_wp2
  rw [Lib.run_to_unsafe w ⟨b, 0, none⟩ Tryz.underlying80 Tryz.underlying139 hj (by rw [hjs]; decide) hsh (Nat.zero_lt_succ 1)]
  simp only [Result.andThen]
  rw [Oper.upon_value]
  go_wp2
  rw [run_callFunc_extern Tryz.func141 (by kernel_rfl) (by kernel_rfl) (by kernel_rfl) (e := Extern.AbiNoEscape.same) (by kernel_rfl)]
  rw [Lib.run_noEscape]
  simp only [Result.andThen]
  rw [Oper.upon_value]
  go_wp2
  rw [Lib.run_from_unsafe w ⟨b, 0, none⟩ Tryz.underlying139 Tryz.underlying80 hj hsh bld_lies]
  simp only [Result.andThen]
  rw [Oper.upon_value]
  go_wp2
  go_end0
  exact ⟨rfl, rfl⟩

/-- The address of a variable. -/
abbrev va (b : Nat) : Value := .pointer (some ⟨b, 0, none⟩)

/-- A builder's two cells in memory. -/
theorem bld_cells {w : World} {L : Nat → Nat → Prop} {b : Nat} {p : D} {hd : Value} (hp : p = .nilp ∨ p = .raw (va b))
    (h : BoxT w L (some b) 83 (.agg [p, .raw hd]) (va b)) : ∃ pv, w.heap[b]? = some (.cells #[pv, hd] 83 (0, 0)) ∧ (∀ o, ¬ L b o) ∧ hd.oneCell' = true ∧ vIsAgg hd = false ∧ ((p = .nilp ∧ pv = .pointer none) ∨ (p = .raw (va b) ∧ pv = va b)) := by
  obtain ⟨g, C, h1, h2, h3, h4, h5⟩ := h
  obtain rfl : b = g := by simpa using h1
  simp only [Rep, RepL] at h4
  obtain ⟨css, ⟨c, cs, rfl, hc, c2, cs2, rfl, ⟨rfl, h7, h8⟩, rfl⟩, h6⟩ := h4
  rcases hp with rfl | rfl
  · simp only [Rep] at hc
    subst hc
    have : C = #[.pointer none, hd] := by apply Array.ext'; simpa using h6
    subst this
    exact ⟨_, h3, h5, h7, h8, .inl ⟨rfl, rfl⟩⟩
  · simp only [Rep] at hc
    obtain ⟨rfl, _, _⟩ := hc
    have : C = #[va b, hd] := by apply Array.ext'; simpa using h6
    subst this
    exact ⟨_, h3, h5, h7, h8, .inr ⟨rfl, rfl⟩⟩
theorem bld_laid {w : World} {L : Nat → Nat → Prop} {b : Nat} {hd : Value} (h1 : w.heap[b]? = some (.cells #[va b, hd] 83 (0, 0))) (h2 : ∀ o, ¬ L b o) (h3 : hd.oneCell' = true) (h4 : vIsAgg hd = false) :
    RH Tryz.prog w L (.hb (va b) 83 (.agg [.raw (va b), .raw hd])) := by
  refine ⟨rfl, b, _, rfl, rfl, h1, ?_, h2⟩
  simp only [Rep, RepL]
  exact ⟨[[va b], [hd]], ⟨_, _, rfl, ⟨rfl, rfl, rfl⟩, _, _, rfl, ⟨rfl, h3, h4⟩, rfl⟩, rfl⟩

theorem copyCheck_fn {b : Nat} {p : D} (hp : p = .nilp ∨ p = .raw (va b)) {hd : Value} :
    CtrG Tryz.prog 104 [.d (.raw (va b))] [.hb (va b) 83 (.agg [p, .raw hd])] (fun r hs' => r = .tup [] ∧ hs' = [.hb (va b) 83 (.agg [.raw (va b), .raw hd])]) := by
  refine ⟨enters_of Tryz.func104 (by kernel_rfl) rfl, fun w L vals hlok hv hh _ => ?_⟩
  obtain ⟨v, us, rfl, hv1, hv2⟩ := hv
  obtain rfl : us = [] := hv2
  obtain rfl : v = va b := RepV.raw_inv hv1
  have hb : BoxT w L (some b) 83 (.agg [p, .raw hd]) (va b) := (hh (.hb (va b) 83 (.agg [p, .raw hd])) (by simp)).2
  obtain ⟨pv, e1, e2, e3, e4, e5⟩ := bld_cells hp hb
  have hlt : b < w.heap.size := (Array.getElem?_eq_some_iff.1 e1).1
  rcases e5 with ⟨rfl, rfl⟩ | ⟨rfl, rfl⟩
  · refine (cc_fresh b w (by rw [Lib.cell_of_heap e1]; rfl) (by simp [World.shape?, e1]) (Lib.frozen_of_heap e1 0)).mono ?_
    rintro e w' ⟨rfl, rfl⟩
    have hsz : (w.setCell ⟨b, 0, none⟩ (va b)).heap.size = w.heap.size := by simp [World.setCell]
    refine ⟨_, L, none, .tup [], _, rfl, ⟨rfl, rfl, rfl, Nat.le_of_eq hsz.symm, fun k hk hn => Below.heap_setCell w _ _ k (fun e => hn (by simp [hblk, e]))⟩, fun g q hq => by rw [hsz]; exact hlok g q hq, fun _ _ _ _ => Iff.rfl, fun g hg => ?_, ?_, ⟨[], rfl, rfl⟩, fun x hx => ?_, rfl, rfl⟩
    · simp [hblk] at hg; subst hg; exact ⟨by rw [hsz]; exact hlt, .inr (by simp [hblk])⟩
    · simp [apartB, hblk]
    · simp at hx; subst hx
      refine bld_laid ?_ e2 e3 e4
      simp [World.setCell, Array.getElem?_modify, e1]
  · refine (cc_used b w (by rw [Lib.cell_of_heap e1]; rfl)).mono ?_
    rintro e w' ⟨rfl, rfl⟩
    refine ⟨_, L, none, .tup [], _, rfl, GrownS.refl _ _, hlok, fun _ _ _ _ => Iff.rfl, fun g hg => ?_, ?_, ⟨[], rfl, rfl⟩, fun x hx => ?_, rfl, rfl⟩
    · simp [hblk] at hg; subst hg; exact ⟨hlt, .inr (by simp [hblk])⟩
    · simp [apartB, hblk]
    · simp at hx; subst hx
      exact bld_laid e1 e2 e3 e4
end Go.Proofs.Tz

/- strings.Builder: String. -/
set_option linter.unusedVariables false
namespace Go.Proofs.Tz
open Go.Vw Go.RowKit Go.Proofs

theorem byte_info : (Tryz.prog.info? 5).map (·.size) = some 1 := by kernel_rfl
theorem byte_cells : Tryz.prog.cellsOf 5 = 1 := by kernel_rfl

theorem bytes_cells {w : World} {L : Nat → Nat → Prop} : ∀ {s : Str} {css : List (List Value)}, RepL w L (bytesD s) css → css.flatten = s.map fun c => Value.int .u8 (c.toNat : Int)
  | [], css, h => by simp only [bytesD, List.map_nil, RepL] at h; subst h; rfl
  | c :: s, css, h => by
    simp only [bytesD, List.map_cons, RepL, Rep] at h
    obtain ⟨c1, cs, rfl, rfl, h2⟩ := h
    simp [bytes_cells (s := s) h2]

set_option maxRecDepth 100000 in
set_option maxHeartbeats 1000000 in
theorem bs_row {b g cap : Nat} {p : Value} {l : List UInt8} (w : World) (h0 : l ≠ []) (hbk : w.heap[b]? = some (.cells #[p, .slice (some ⟨g, 0, none⟩) l.length cap] 83 (0, 0))) {cur : Array Value} (hg : w.heap[g]? = some (.cells cur 5 (0, 0)))
    (hnc : l.length ≤ cap) (hcm : cap ≤ maxLen) (hcs : cap ≤ cur.size) (htk : ∀ j x, l[j]? = some x → w.cell? ((⟨g, 0, none⟩ : Addr).add j) = some (.int .u8 x.toNat)) :
    Calls Tryz.prog 70 #[.pointer (some ⟨b, 0, none⟩)] w fun e w' => e = .returned (.string ⟨l.toArray⟩) ∧ w' = w.drew.freeze ⟨g, 0, none⟩ l.length := by
  have hl0 : l.length ≠ 0 := by simpa using h0
  have c1 : w.drew.cell? ⟨b, 1, none⟩ = some (.slice (some ⟨g, 0, none⟩) l.length cap) := by
    have : w.drew.heap[b]? = some (.cells #[p, .slice (some ⟨g, 0, none⟩) l.length cap] 83 (0, 0)) := hbk
    rw [Lib.cell_of_heap this]; rfl
  have hSD : (Builtin.unsafeSliceData_ #[81] 113 #[.slice (some ⟨g, 0, none⟩) l.length cap]).run Tryz.prog w.drew = .ok (.pointer (some ⟨g, 0, none⟩)) w.drew :=
    Lib.run_unsafeSliceData_row _ _ _ _ _ _ (by omega)
  have hUS : (Builtin.unsafeString_ #[113, 3] 9 #[.pointer (some ⟨g, 0, none⟩), .int .i64 l.length]).run Tryz.prog w.drew = .ok (.string ⟨l.toArray⟩) (w.drew.freeze ⟨g, 0, none⟩ l.length) := by
    refine Lib.run_unsafeString_row w.drew 113 3 9 5 Tryz.underlying113 byte_cells g cur.size (by have hg' : w.drew.heap[g]? = some (.cells cur 5 (0, 0)) := hg; simp [World.shape?, hg']) l h0 (by omega) (by unfold maxLen at hcm; omega) ?_
    exact htk
  go_enter Tryz.func70, Tryz.ntmps70
  go_wp2
  go_region
  all_goals (go_wp2; go_ret; exact ⟨rfl, rfl⟩)

theorem bs_none (W : World) (q : Option Addr) : (Builtin.unsafeString_ #[113, 3] 9 #[.pointer q, .int .i64 0]).run Tryz.prog W = .ok (.string .empty) W := Lib.run_unsafeString_none W _ _ _ q

set_option maxRecDepth 100000 in
set_option maxHeartbeats 1000000 in
theorem bs_nil {b : Nat} {p : Value} (w : World) (hbk : w.heap[b]? = some (.cells #[p, .slice none 0 0] 83 (0, 0))) :
    Calls Tryz.prog 70 #[.pointer (some ⟨b, 0, none⟩)] w fun e w' => e = .returned (.string ⟨#[]⟩) ∧ w' = w.drew := by
  have hUS := bs_none
  have c1 : w.drew.cell? ⟨b, 1, none⟩ = some (.slice none 0 0) := by
    have : w.drew.heap[b]? = some (.cells #[p, .slice none 0 0] 83 (0, 0)) := hbk
    rw [Lib.cell_of_heap this]; rfl
  have hSD : (Builtin.unsafeSliceData_ #[81] 113 #[.slice none 0 0]).run Tryz.prog w.drew = .ok (.pointer none) w.drew := rfl
  go_enter Tryz.func70, Tryz.ntmps70
  go_wp2
  go_region
  all_goals (go_wp2; go_ret; exact ⟨rfl, rfl⟩)

set_option maxRecDepth 100000 in
set_option maxHeartbeats 1000000 in
theorem bs_room {b g cap : Nat} {p : Value} (w : World) (hc0 : cap ≠ 0) (hbk : w.heap[b]? = some (.cells #[p, .slice (some ⟨g, 0, none⟩) 0 cap] 83 (0, 0))) :
    Calls Tryz.prog 70 #[.pointer (some ⟨b, 0, none⟩)] w fun e w' => e = .returned (.string ⟨#[]⟩) ∧ w' = w.drew := by
  have hUS := bs_none
  have c1 : w.drew.cell? ⟨b, 1, none⟩ = some (.slice (some ⟨g, 0, none⟩) 0 cap) := by
    have : w.drew.heap[b]? = some (.cells #[p, .slice (some ⟨g, 0, none⟩) 0 cap] 83 (0, 0)) := hbk
    rw [Lib.cell_of_heap this]; rfl
  have hSD : (Builtin.unsafeSliceData_ #[81] 113 #[.slice (some ⟨g, 0, none⟩) 0 cap]).run Tryz.prog w.drew = .ok (.pointer (some ⟨g, 0, none⟩)) w.drew :=
    Lib.run_unsafeSliceData_row _ _ _ _ _ _ hc0
  clear hc0
  go_enter Tryz.func70, Tryz.ntmps70
  go_wp2
  go_region
  all_goals (go_wp2; go_ret; exact ⟨rfl, rfl⟩)

set_option maxRecDepth 100000 in
set_option maxHeartbeats 1000000 in
theorem bs_noroom {b g : Nat} {p : Value} {cur : Array Value} (w : World) (hbk : w.heap[b]? = some (.cells #[p, .slice (some ⟨g, 0, none⟩) 0 0] 83 (0, 0))) (hg : w.heap[g]? = some (.cells cur 5 (0, 0))) :
    Calls Tryz.prog 70 #[.pointer (some ⟨b, 0, none⟩)] w fun e w' => e = .returned (.string ⟨#[]⟩) ∧ (w' = w.drew.alloc (.view ⟨g, 0, none⟩ 5) ∨ w' = (w.alloc (.view ⟨g, 0, none⟩ 5)).drew) := by
  have hUS := bs_none
  have hlt : b < w.heap.size := (Array.getElem?_eq_some_iff.1 hbk).1
  have c1 : w.drew.cell? ⟨b, 1, none⟩ = some (.slice (some ⟨g, 0, none⟩) 0 0) := by
    have : w.drew.heap[b]? = some (.cells #[p, .slice (some ⟨g, 0, none⟩) 0 0] 83 (0, 0)) := hbk
    rw [Lib.cell_of_heap this]; rfl
  have hSD : (Builtin.unsafeSliceData_ #[81] 113 #[.slice (some ⟨g, 0, none⟩) 0 0]).run Tryz.prog w.drew = .ok (.pointer (some ⟨w.drew.heap.size, 0, none⟩)) (w.drew.alloc (.view ⟨g, 0, none⟩ 5)) :=
    Lib.run_unsafeSliceData_zero w.drew _ _ 5 Tryz.underlying113 ⟨g, 0, none⟩ 0 (5, cur.size) (by have hg' : w.drew.heap[g]? = some (.cells cur 5 (0, 0)) := hg; simp [World.shape?, hg'])
  have c2 : (w.drew.alloc (.view ⟨g, 0, none⟩ 5)).cell? ⟨b, 1, none⟩ = some (.slice (some ⟨g, 0, none⟩) 0 0) := by
    have : (w.drew.alloc (.view ⟨g, 0, none⟩ 5)).heap[b]? = _ := (Lib.alloc_old w.drew _ b hlt).trans hbk
    rw [Lib.cell_of_heap this]; rfl
  have c3 : (w.alloc (.view ⟨g, 0, none⟩ 5)).drew.cell? ⟨b, 1, none⟩ = some (.slice (some ⟨g, 0, none⟩) 0 0) := c2
  have c0 : w.cell? ⟨b, 1, none⟩ = some (.slice (some ⟨g, 0, none⟩) 0 0) := c1
  go_enter Tryz.func70, Tryz.ntmps70
  go_wp2
  go_region
  all_goals (go_wp2; go_ret; exact ⟨rfl, .inl rfl⟩)

/-- A builder: its variable's block, its copy-check's pointer, its bytes' head. -/
abbrev bld (b : Nat) (p : D) (hd : Value) (s : Str) : List AV := [.hb (va b) 83 (.agg [p, .raw hd]), .hs hd 5 (bytesD s)]

theorem bytesD_length (s : Str) : (bytesD s).length = s.length := by simp [bytesD]
theorem heap_freeze (w : World) (a : Addr) (n k : Nat) (h : k ≠ a.block) : (w.freeze a n).heap[k]? = w.heap[k]? := by
  unfold World.freeze
  split
  · rfl
  · simp only []
    rw [Array.getElem?_modify, if_neg (fun e => h e.symm)]
theorem size_freeze (w : World) (a : Addr) (n : Nat) : (w.freeze a n).heap.size = w.heap.size := by
  unfold World.freeze
  split
  · rfl
  · simp
theorem size_alloc (w : World) (o : Obj) : (w.alloc o).heap.size = w.heap.size + 1 := by unfold World.alloc; simp
theorem freeze_parts (w : World) (a : Addr) (n : Nat) : (w.freeze a n).os = w.os ∧ (w.freeze a n).tape = w.tape ∧ (w.freeze a n).output = w.output := by
  unfold World.freeze
  split <;> exact ⟨rfl, rfl, rfl⟩

theorem string_fn {b : Nat} {p : D} (hp : p = .nilp ∨ p = .raw (va b)) {hd : Value} {s : Str} :
    CtrG Tryz.prog 70 [.d (.raw (va b))] (bld b p hd s) (fun r hs' => r = .d (.str s) ∧ hs' = []) := by
  refine ⟨enters_of Tryz.func70 (by kernel_rfl) rfl, fun w L vals hlok hv hh hap => ?_⟩
  obtain ⟨v, us, rfl, hv1, hv2⟩ := hv
  obtain rfl : us = [] := hv2
  obtain rfl : v = va b := RepV.raw_inv hv1
  have hb : BoxT w L (some b) 83 (.agg [p, .raw hd]) (va b) := (hh (.hb (va b) 83 (.agg [p, .raw hd])) (by simp)).2
  obtain ⟨pv, e1, e2, e3, e4, e5⟩ := bld_cells hp hb
  have hs : OwnR Tryz.prog w L hd.ownBlock true 5 (bytesD s) hd := (hh (.hs hd 5 (bytesD s)) (by simp)).2
  obtain ⟨css, sz, f1, f2, f3, f4, f5⟩ := hs
  obtain rfl : sz = 1 := by
    have : ety 5 = 5 := rfl
    rw [this, byte_info] at f1; simpa using f1.symm
  have hcs := bytes_cells f2
  have done : ∀ (w' : World), GrownS w w' (fun k => some k ∈ (bld b p hd s).map hblk) → ∀ st : Str, st = s → Ending.returned (.string ⟨st.toArray⟩) = Ending.returned (.string ⟨s.toArray⟩) ∧
      ∃ v L' og r hs', Ending.returned (.string ⟨s.toArray⟩) = Ending.returned v ∧ GrownS w w' (fun k => some k ∈ (bld b p hd s).map hblk) ∧ (∀ b q, L' b q → b < w'.heap.size) ∧ (∀ b' q, b' < w.heap.size → some b' ∉ (bld b p hd s).map hblk → (L' b' q ↔ L b' q)) ∧
      (∀ g, some g ∈ og :: hs'.map hblk → g < w'.heap.size ∧ (w.heap.size ≤ g ∨ some g ∈ (bld b p hd s).map hblk)) ∧ apartB (og :: hs'.map hblk) ∧ RC Tryz.prog w' L' og r v ∧ (∀ x ∈ hs', RH Tryz.prog w' L' x) ∧ (r = .d (.str s) ∧ hs' = []) := by
    intro w' hg st hst
    refine ⟨by rw [hst], _, L, none, .d (.str s), [], rfl, hg, fun b q hq => Nat.lt_of_lt_of_le (hlok b q hq) hg.size, fun _ _ _ _ => Iff.rfl, fun g hgm => by simp at hgm, by simp [apartB], RepV.str, by simp, rfl, rfl⟩
  rcases f4.2 with ⟨rfl, hn⟩ | ⟨g, cap, cur, hv, hh', hnc, hcm, hsz, ht⟩
  · have hs0 : s = [] := by simpa [bytesD] using hn
    subst hs0
    refine (bs_nil w e1).mono ?_
    rintro e w' ⟨rfl, rfl⟩
    exact (done w.drew ⟨rfl, rfl, rfl, Nat.le_refl _, fun _ _ _ => rfl⟩ [] rfl).2
  · subst hv
    rw [bytesD_length] at *
    have hblk1 : (bld b p (.slice (some ⟨g, 0, none⟩) s.length cap) s).map hblk = [some b, some g] := by simp [hblk, Value.ownBlock]
    by_cases h0 : s = []
    · subst h0
      by_cases hc0 : cap = 0
      · subst hc0
        refine (bs_noroom w e1 hh').mono ?_
        rintro e w' ⟨rfl, hw⟩
        refine (done w' ?_ [] rfl).2
        rcases hw with rfl | rfl
        · exact ⟨rfl, rfl, rfl, by rw [size_alloc]; exact Nat.le_succ _, fun k hk _ => Lib.alloc_old w.drew _ k hk⟩
        · exact ⟨rfl, rfl, rfl, by show _ ≤ (w.alloc _).heap.size; rw [size_alloc]; exact Nat.le_succ _, fun k hk _ => Lib.alloc_old w _ k hk⟩
      · refine (bs_room w hc0 e1).mono ?_
        rintro e w' ⟨rfl, rfl⟩
        exact (done w.drew ⟨rfl, rfl, rfl, Nat.le_refl _, fun _ _ _ => rfl⟩ [] rfl).2
    · refine (bs_row w h0 e1 hh' hnc hcm (by omega) (fun j x hx => ?_)).mono ?_
      · have := rowOK.cells f4 (g := g) rfl j (.int .u8 x.toNat) (by rw [hcs, List.getElem?_map, hx]; rfl)
        exact this
      · rintro e w' ⟨rfl, rfl⟩
        refine (done (w.drew.freeze ⟨g, 0, none⟩ s.length) ⟨(freeze_parts _ _ _).1, (freeze_parts _ _ _).2.1, (freeze_parts _ _ _).2.2, by rw [size_freeze]; exact Nat.le_refl _, fun k hk hn => ?_⟩ s rfl).2
        rw [heap_freeze _ _ _ _ (fun e => hn (by rw [hblk1]; simp [e]))]
        rfl
end Go.Proofs.Tz

/- strings.Builder: WriteByte, WriteString, Len. -/
set_option linter.unusedVariables false
set_option linter.unusedSimpArgs false
namespace Go.Proofs.Tz
open Go.Vw Go.RowKit Go.Proofs

/-- A call to which names are given, with its contract. -/
theorem givB {P : Program} {g : FuncId} {args : List AV} {σ : St} {d : Nat} {K : St → Prop} (ks : List Nat) (b : Nat) {hs : List AV} {Post : AV → List AV → Prop} (h : CtrG P g args hs Post) (h1 : ks.map σ = hs) (h2 : hs.all isH = true) (h3 : ks.Nodup)
    (hk : ∀ r hs', Post r hs' → K (putH (put (takeH σ ks) d r) ks b hs')) : GivK P g args σ d K :=
  ⟨ks, b, Post, fun k hk => by
    have : σ k ∈ hs := by rw [← h1]; exact List.mem_map.2 ⟨k, hk, rfl⟩
    exact List.all_eq_true.1 h2 _ this, h3, by rw [h1]; exact h, hk⟩

/-- The address of a named variable's field. -/
theorem rawFd {P : Program} {s f : Nat} {u : Value} {σ : St} {C : AV → Prop} (j : Nat) {e : TypeId} {ds : List D} (hj : σ j = .hb u e (.agg ds)) (h0 : 1000000 ≤ j) (h1 : f < ds.length) (h2 : fieldOff P s f = some (widths (ds.take f))) (h : C (.adr j [f])) : RawFd P s f u σ C :=
  ⟨j, e, ds, h0, hj, h1, h2, h⟩
theorem appSK {e : TypeId} {t : Str} {l : List D} {u : Value} {σ : St} {d : Nat} {K : St → Prop} (j : Nat) (hj : σ j = .hs u e l) (h2 : l.length + List.length t ≤ 140737488355328)
    (hk : ∀ A c, K (put (put σ j (.hs (.slice A (l ++ bytesD t).length c) e (l ++ bytesD t))) d (.d (.raw (.slice A (l ++ bytesD t).length c))))) : AppSK e t u σ d K := ⟨j, l, .inl hj, h2, hk⟩
@[simp] theorem cval_nilIface : cval Value.nilIface = .undef := rfl

theorem writeByte_fn {b : Nat} {p : D} (hp : p = .nilp ∨ p = .raw (va b)) {hd : Value} {s : Str} (c : UInt8) (hl : s.length + 1 ≤ 140737488355328) :
    CtrG Tryz.prog 106 [.d (.raw (va b)), .d (.int .u8 c.toNat)] (bld b p hd s) (fun r hs' => ∃ hd', hs' = bld b (.raw (va b)) hd' (s ++ [c])) := by
  refine fn_of_vwpGN (fun i => i == 5000006) (by kernel_rfl) (rs := [.tmp 4]) Tryz.func106 (by kernel_rfl) rfl rfl (by simp) (Nat.le_of_ble_eq_true rfl) (by kernel_rfl) rfl ?_
  simp -implicitDefEqProofs [initG]
  refine givB [1000000] 1000000 (copyCheck_fn (hd := hd) hp) (by simp [initG]) rfl (by simp) ?_
  rintro r hs' ⟨rfl, rfl⟩
  simp -implicitDefEqProofs [initG, takeH, putH]
  refine rawFd 1000000 (by simp; exact ⟨rfl, rfl⟩) (by omega) (by simp) (by kernel_rfl) ?_
  simp -implicitDefEqProofs [initG]
  refine appK (l := bytesD s) 1000001 (by simp [initG]) (by simp) (by simp [bytesD]; omega) (by simp [bytesD]; omega) (fun A c2 => ?_)
  simp -implicitDefEqProofs [initG]
  refine rawFd 1000000 (by simp; exact ⟨rfl, rfl⟩) (by omega) (by simp) (by kernel_rfl) ?_
  simp -implicitDefEqProofs [initG]
  refine ⟨[.undef], [1000000, 1000001], by simp, by simp [isH], by simp [resDs, resD], .slice A ((bytesD s).length + 1) c2, by simp [bytesD]⟩

theorem writeString_fn {b : Nat} {p : D} (hp : p = .nilp ∨ p = .raw (va b)) {hd : Value} {s : Str} (t : Str) (hl : s.length + t.length ≤ 140737488355328) :
    CtrG Tryz.prog 67 [.d (.raw (va b)), .d (.str t)] (bld b p hd s) (fun r hs' => ∃ hd', hs' = bld b (.raw (va b)) hd' (s ++ t)) := by
  refine fn_of_vwpGN (fun i => i == 5000007) (by kernel_rfl) (rs := [.tmp 4, .tmp 5]) Tryz.func67 (by kernel_rfl) rfl rfl (by simp) (Nat.le_of_ble_eq_true rfl) (by kernel_rfl) rfl ?_
  simp -implicitDefEqProofs [initG]
  refine givB [1000000] 1000000 (copyCheck_fn (hd := hd) hp) (by simp [initG]) rfl (by simp) ?_
  rintro r hs' ⟨rfl, rfl⟩
  simp -implicitDefEqProofs [initG, takeH, putH]
  refine rawFd 1000000 (by simp; exact ⟨rfl, rfl⟩) (by omega) (by simp) (by kernel_rfl) ?_
  simp -implicitDefEqProofs [initG]
  refine appSK (l := bytesD s) 1000001 (by simp [initG]) (by simp [bytesD]; omega) (fun A c2 => ?_)
  simp -implicitDefEqProofs [initG]
  refine rawFd 1000000 (by simp; exact ⟨rfl, rfl⟩) (by omega) (by simp) (by kernel_rfl) ?_
  simp -implicitDefEqProofs [initG]
  refine ⟨[.undef, .undef], [1000000, 1000001], by simp, by simp [isH], by simp [resDs, resD], .slice A ((bytesD s).length + (bytesD t).length) c2, by simp [bytesD]⟩

/-- A named slice's length is in its head. -/
theorem CtrG.head {P : Program} {f : FuncId} {args hs : List AV} {Post : AV → List AV → Prop} {u : Value} {e : TypeId} {l : List D} (hm : AV.hs u e l ∈ hs) (hE : Enters P f) (h : ∀ A c, u = .slice A l.length c → CtrG P f args hs Post) : CtrG P f args hs Post := by
  refine ⟨hE, fun w L vals hlok hv hh ha => ?_⟩
  obtain ⟨A, c, hu⟩ := OwnR.shape (show OwnR P w L u.ownBlock true e l u from (hh _ hm).2)
  exact (h A c hu).2 w L vals hlok hv hh ha

theorem bLen_fn {b : Nat} {p : D} (hp : p = .nilp ∨ p = .raw (va b)) {hd : Value} {s : Str} :
    CtrG Tryz.prog 69 [.d (.raw (va b))] (bld b p hd s) (fun r hs' => r = .d (.int .i64 s.length) ∧ hs' = bld b p hd s) := by
  refine CtrG.head (u := hd) (e := 5) (l := bytesD s) (by simp) (enters_of Tryz.func69 (by kernel_rfl) rfl) (fun A c hh => ?_)
  subst hh
  refine fn_of_vwpG (fun _ => false) (by kernel_rfl) Tryz.func69 (by kernel_rfl) rfl rfl (Nat.le_of_ble_eq_true rfl) (by kernel_rfl) rfl ?_
  simp -implicitDefEqProofs [initG]
  refine rawFd (e := 83) (ds := [p, .raw (.slice A (bytesD s).length c)]) 1000000 (by simp [initG]) (by omega) (by simp) (by rcases hp with rfl | rfl <;> kernel_rfl) ?_
  simp -implicitDefEqProofs [initG]
  refine ⟨.d (.int .i64 s.length), [1000000, 1000001], by simp, by simp [isH], by simp [ResG, bytesD], by simp [bytesD], by simp [bytesD, initG]⟩
end Go.Proofs.Tz

/- Library functions on bytes that change nothing: IndexByte, Count. -/
set_option linter.unusedVariables false
set_option linter.unusedSimpArgs false
namespace Go.Proofs.Tz
open Go.Vw Go.RowKit Go.Proofs

/-- A function that leaves the world as it was. -/
theorem Ctr.same {P : Program} {f : FuncId} {xs : List D} {r : D} {vs : List Value} {v : Value} (hE : Enters P f) (h : ∀ w, Calls P f vs.toArray w fun e w' => e = .returned v ∧ w' = w)
    (hx : ∀ w L og vals, RCs P w L og (xs.map .d) vals → vals = vs) (hr : ∀ w L, RepV w L r v) : Ctr P f (xs.map .d) (.d r) := by
  refine ⟨hE, fun w L og vals hlok hog hv => ?_⟩
  rw [hx w L og vals hv]
  refine (h w).mono ?_
  rintro e w' ⟨rfl, rfl⟩
  exact ⟨_, L, none, rfl, GrownS.refl _ _, hlok, fun _ _ _ _ => Iff.rfl, by simp, hr _ _⟩

/-- The place of the first byte c; or -1. -/
abbrev ixB (s : Str) (c : UInt8) : Int := Go.Lib.indexByte s c

set_option maxRecDepth 100000 in
set_option maxHeartbeats 1000000 in
theorem indexByteL_any (s : Str) (c : UInt8) (w : World) : Calls Tryz.prog 145 #[.string ⟨s.toArray⟩, .int .u8 c.toNat] w fun e w' => e = .returned (.int .i64 (ixB s c)) ∧ w' = w := by
  go_enter Tryz.func145, Tryz.ntmps145
  go_wp2
  rw [run_callFunc_extern Tryz.func169 (by kernel_rfl) (by kernel_rfl) (by kernel_rfl) (e := Extern.BytealgIndexByte.indexByte) (by kernel_rfl), Lib.run_indexByteString]
  simp only [Result.andThen]
  rw [Oper.upon_value]
  go_wp2
  go_ret
  simp [ixB]

theorem indexByteL_fn (s : Str) (c : UInt8) : Ctr Tryz.prog 145 [.d (.str s), .d (.int .u8 c.toNat)] (.d (.int .i64 (ixB s c))) := by
  refine Ctr.same (xs := [.str s, .int .u8 c.toNat]) (enters_of Tryz.func145 (by kernel_rfl) rfl) (indexByteL_any s c) (fun w L og vals h => ?_) (fun w L => RepV.int)
  obtain ⟨v, us, rfl, h1, v2, us2, rfl, h2, h3⟩ := h
  obtain rfl : us2 = [] := h3
  obtain rfl := RepV.str_inv h1
  obtain rfl := RepV.int_inv h2
  rfl

theorem indexByte_fn (s : Str) (c : UInt8) : Ctr Tryz.prog 142 [.d (.str s), .d (.int .u8 c.toNat)] (.d (.int .i64 (ixB s c))) := by
  refine fn_of_vwp (fun _ => false) (by kernel_rfl) Tryz.func142 (by kernel_rfl) rfl rfl (Nat.le_of_ble_eq_true rfl) (by kernel_rfl) rfl rfl ?_
  simp -implicitDefEqProofs
  refine callK (indexByteL_fn s c) ?_
  simp -implicitDefEqProofs

set_option maxRecDepth 100000 in
set_option maxHeartbeats 1000000 in
theorem count_any (s : Str) (c : UInt8) (hl : s.length ≤ 140737488355328) (w : World) : Calls Tryz.prog 167 #[.string ⟨s.toArray⟩, .string ⟨#[c]⟩] w fun e w' => e = .returned (.int .i64 (s.count c)) ∧ w' = w := by
  go_enter Tryz.func167, Tryz.ntmps167
  go_wp2
  rw [run_callFunc_extern Tryz.func178 (by kernel_rfl) (by kernel_rfl) (by kernel_rfl) (e := Extern.BytealgCount.count) (by kernel_rfl), Lib.run_countString]
  simp only [Result.andThen]
  rw [Oper.upon_value]
  go_wp2
  go_ret
  simp [Lib.countByte]
  rfl

theorem count_fn (s : Str) (c : UInt8) (hl : s.length ≤ 140737488355328) : Ctr Tryz.prog 167 [.d (.str s), .d (.str [c])] (.d (.int .i64 (s.count c))) := by
  refine Ctr.same (xs := [.str s, .str [c]]) (enters_of Tryz.func167 (by kernel_rfl) rfl) (count_any s c hl) (fun w L og vals h => ?_) (fun w L => RepV.int)
  obtain ⟨v, us, rfl, h1, v2, us2, rfl, h2, h3⟩ := h
  obtain rfl : us2 = [] := h3
  obtain rfl := RepV.str_inv h1
  obtain rfl := RepV.str_inv h2
  rfl

theorem ixB_lt {s : Str} {c : UInt8} (h : 0 ≤ ixB s c) : (ixB s c).toNat < s.length := by
  induction s with
  | nil => simp [ixB, Go.Lib.indexByte] at h
  | cons x s ih =>
    simp only [ixB, Go.Lib.indexByte] at h ih ⊢
    split
    · simp
    · split
      · rename_i h1 h2; simp [h1, h2] at h
      · rename_i h1 h2
        simp only [h1, h2] at h
        have h3 : Go.Lib.indexByte s c ≠ -1 := by simpa using h2
        have h4 := Go.Lib.indexByte_ge s c
        have := ih (by omega)
        simp only [List.length_cons]
        omega
theorem ixB_ge (s : Str) (c : UInt8) : -1 ≤ ixB s c := Go.Lib.indexByte_ge s c

theorem indexL_fn (s : Str) (c : UInt8) (hl : s.length ≤ 140737488355328) : Ctr Tryz.prog 113 [.d (.str s), .d (.str [c])] (.d (.int .i64 (ixB s c))) := by
  refine fn_of_vwp (fun _ => false) (by kernel_rfl) Tryz.func113 (by kernel_rfl) rfl rfl (Nat.le_of_ble_eq_true rfl) (by kernel_rfl) rfl rfl ?_
  simp -implicitDefEqProofs
  by_cases hs : [c] = s
  · subst hs
    simp [ixB, Go.Lib.indexByte]
  · simp only [hs, if_false]
    refine callK (indexByteL_fn s c) ?_
    simp -implicitDefEqProofs

/-- strings.Cut at a byte. -/
def cutB (s : Str) (c : UInt8) : Str × Str × Bool := if 0 ≤ ixB s c then (s.take (ixB s c).toNat, s.drop ((ixB s c).toNat + 1), true) else (s, [], false)

theorem cutL_fn (s : Str) (c : UInt8) (hl : s.length ≤ 140737488355328) : Ctr Tryz.prog 82 [.d (.str s), .d (.str [c])] (.tup [.d (.str (cutB s c).1), .d (.str (cutB s c).2.1), .d (.bool (cutB s c).2.2)]) := by
  refine fn_of_vwpN (rv := .tmp 4) (rs := [.tmp 5, .tmp 6]) (r := .d (.str (cutB s c).1)) (ys := [.d (.str (cutB s c).2.1), .d (.bool (cutB s c).2.2)]) (fun _ => false) (by kernel_rfl) Tryz.func82 (by kernel_rfl) rfl rfl (by simp) (Nat.le_of_ble_eq_true rfl) (by kernel_rfl) rfl rfl ?_
  simp -implicitDefEqProofs
  refine callK (indexL_fn s c hl) ?_
  by_cases h : 0 ≤ ixB s c
  · have hlt := ixB_lt h
    obtain ⟨k, hk⟩ := Int.eq_ofNat_of_zero_le h
    rw [hk] at hlt
    have h2 : (0 : Int) ≤ (k : Int) + 1 := by omega
    have h3 : ((k : Int) + 1).toNat = k + 1 := by omega
    simp -implicitDefEqProofs [hk, h2, h3, cutB]
    simp only [Int.toNat_natCast] at hlt
    refine ⟨by omega, by omega, by omega, ?_⟩
    rw [List.take_of_length_le (by simp)]
  · simp -implicitDefEqProofs [h, cutB]

theorem cut_fn (s : Str) (c : UInt8) (hl : s.length ≤ 140737488355328) : Ctr Tryz.prog 36 [.d (.str s), .d (.str [c])] (.tup [.d (.str (cutB s c).1), .d (.str (cutB s c).2.1), .d (.bool (cutB s c).2.2)]) := by
  refine fn_of_vwpN (rv := .tmp 4) (rs := [.tmp 5, .tmp 6]) (r := .d (.str (cutB s c).1)) (ys := [.d (.str (cutB s c).2.1), .d (.bool (cutB s c).2.2)]) (fun _ => false) (by kernel_rfl) Tryz.func36 (by kernel_rfl) rfl rfl (by simp) (Nat.le_of_ble_eq_true rfl) (by kernel_rfl) rfl rfl ?_
  simp -implicitDefEqProofs
  refine callK (cutL_fn s c hl) ?_
  simp -implicitDefEqProofs
end Go.Proofs.Tz

/- codec.plain, identityref02.plain. -/
set_option linter.unusedVariables false
set_option linter.unusedSimpArgs false
namespace Go.Proofs.Tz
open Go.Vw Go.RowKit Go.Proofs

/-- A byte that is written as it is. -/
def plainB (c : UInt8) : Bool := decide ((33 : Int) ≤ c.toNat ∧ (c.toNat : Int) ≤ 126 ∧ ¬ (c.toNat : Int) = 37 ∧ ¬ (c.toNat : Int) = 124 ∧ ¬ (c.toNat : Int) = 44 ∧ ¬ (c.toNat : Int) = 61 ∧ ¬ (c.toNat : Int) = 59 ∧ ¬ (c.toNat : Int) = 34)

theorem plainR_fn (c : UInt8) : Ctr Tryz.prog 107 [.d (.int .u8 c.toNat)] (.d (.bool (plainB c))) := by
  refine fn_of_vwp (fun _ => false) (by kernel_rfl) Tryz.func107 (by kernel_rfl) rfl rfl (Nat.le_of_ble_eq_true rfl) (by kernel_rfl) rfl rfl ?_
  by_cases h1 : (33 : Int) ≤ c.toNat
  · by_cases h2 : (c.toNat : Int) ≤ 126
    · by_cases h3 : (c.toNat : Int) = 37
      · simp -implicitDefEqProofs [h1, h2, h3, plainB]
      by_cases h4 : (c.toNat : Int) = 124
      · simp -implicitDefEqProofs [h1, h2, h3, h4, plainB]
      by_cases h5 : (c.toNat : Int) = 44
      · simp -implicitDefEqProofs [h1, h2, h3, h4, h5, plainB]
      by_cases h6 : (c.toNat : Int) = 61
      · simp -implicitDefEqProofs [h1, h2, h3, h4, h5, h6, plainB]
      by_cases h7 : (c.toNat : Int) = 59
      · simp -implicitDefEqProofs [h1, h2, h3, h4, h5, h6, h7, plainB]
      · simp -implicitDefEqProofs [h1, h2, h3, h4, h5, h6, h7, plainB]
    · simp -implicitDefEqProofs [h1, h2, plainB]
  · simp -implicitDefEqProofs [h1, plainB]

theorem ixB_neg (s : Str) (c : UInt8) : ixB s c < 0 ↔ c ∉ s := by
  induction s with
  | nil => simp [ixB, Go.Lib.indexByte]
  | cons x s ih =>
    have h4 := Go.Lib.indexByte_ge s c
    simp only [ixB, Go.Lib.indexByte] at ih ⊢
    by_cases hx : x = c
    · simp [hx]
    · have hx' : (x == c) = false := by simpa using hx
      simp only [hx', Bool.false_eq_true, if_false, List.mem_cons, not_or]
      by_cases h : Go.Lib.indexByte s c = -1
      · simp [h] at ih ⊢
        exact ⟨fun e => hx e.symm, ih⟩
      · have hn : ¬ Go.Lib.indexByte s c < 0 := by omega
        have h0 : (Go.Lib.indexByte s c == -1) = false := by simpa using h
        simp only [h0, Bool.false_eq_true, if_false]
        constructor
        · intro h5; omega
        · intro h5; exact absurd (ih.2 h5.2) hn

theorem u8_int (c : UInt8) (k : Nat) (hk : k < 256) : ((c.toNat : Int) = k) ↔ c = UInt8.ofNat k := by
  constructor
  · intro h
    have : c.toNat = k := by omega
    rw [← this, UInt8.ofNat_toNat]
  · rintro rfl
    simp [UInt8.toNat_ofNat', Nat.mod_eq_of_lt hk]

theorem ixB_plain (c : UInt8) : decide (ixB [37, 124, 44, 61, 59, 34] c < 0) = decide (¬ (c.toNat : Int) = 37 ∧ ¬ (c.toNat : Int) = 124 ∧ ¬ (c.toNat : Int) = 44 ∧ ¬ (c.toNat : Int) = 61 ∧ ¬ (c.toNat : Int) = 59 ∧ ¬ (c.toNat : Int) = 34) := by
  have h1 : ((c.toNat : Int) = 37) ↔ c = 37 := u8_int c 37 (by omega)
  have h2 : ((c.toNat : Int) = 124) ↔ c = 124 := u8_int c 124 (by omega)
  have h3 : ((c.toNat : Int) = 44) ↔ c = 44 := u8_int c 44 (by omega)
  have h4 : ((c.toNat : Int) = 61) ↔ c = 61 := u8_int c 61 (by omega)
  have h5 : ((c.toNat : Int) = 59) ↔ c = 59 := u8_int c 59 (by omega)
  have h6 : ((c.toNat : Int) = 34) ↔ c = 34 := u8_int c 34 (by omega)
  rw [decide_eq_decide, ixB_neg, h1, h2, h3, h4, h5, h6]
  simp

theorem plain_fn (c : UInt8) : Ctr Tryz.prog 105 [.d (.int .u8 c.toNat)] (.d (.bool (plainB c))) := by
  refine fn_of_vwp (fun _ => false) (by kernel_rfl) Tryz.func105 (by kernel_rfl) rfl rfl (Nat.le_of_ble_eq_true rfl) (by kernel_rfl) rfl rfl ?_
  by_cases h1 : (33 : Int) ≤ c.toNat
  · by_cases h2 : (c.toNat : Int) ≤ 126
    · simp -implicitDefEqProofs [h1, h2]
      refine callK (indexByte_fn _ c) ?_
      simp -implicitDefEqProofs [h1, h2, plainB]
      rw [ixB_plain]
      simp
    · simp -implicitDefEqProofs [h1, h2, plainB]
  · simp -implicitDefEqProofs [h1, plainB]
end Go.Proofs.Tz

/- Escape. -/
set_option maxRecDepth 100000
set_option maxHeartbeats 4000000
set_option linter.unusedVariables false
set_option linter.unusedSimpArgs false
namespace Go.Proofs.Tz
open Go.Vw Go.RowKit Go.Proofs

abbrev hexDs : Str := [48, 49, 50, 51, 52, 53, 54, 55, 56, 57, 65, 66, 67, 68, 69, 70]
def hexC (n : Nat) : UInt8 := hexDs.getD n 0
def escB (c : UInt8) : Str := if plainB c then [c] else [37, hexC (c.toNat / 16), hexC (c.toNat % 16)]
def escS (s : Str) : Str := s.flatMap escB

theorem escB_len (c : UInt8) : (escB c).length ≤ 3 := by unfold escB; split <;> simp
theorem escS_len (s : Str) : (escS s).length ≤ 3 * s.length := by
  induction s with
  | nil => simp [escS]
  | cons c s ih =>
    have := escB_len c
    simp only [escS, List.flatMap_cons, List.length_append, List.length_cons] at ih ⊢
    omega
theorem escS_take {s : Str} {k : Nat} (h : k < List.length s) : escS (s.take (k + 1)) = escS (s.take k) ++ escB s[k] := by
  rw [take_s h]; simp only [escS, List.flatMap_append, List.flatMap_cons, List.flatMap_nil, List.append_nil]
theorem u8_lt (c : UInt8) : c.toNat < 256 := c.toNat_lt

theorem hex_at {n : Nat} (h : n < 16) : hexDs[n]? = some (hexC n) := by
  simp only [hexC, List.getD_eq_getElem?_getD]
  rw [List.getElem?_eq_getElem (by simpa using h)]
  rfl
theorem hexQ (c : UInt8) : (0 : Int) ≤ (c.toNat : Int) / 16 ∧ (c.toNat : Int) / 16 ≤ 255 ∧ ((c.toNat : Int) / 16).toNat = c.toNat / 16 ∧ [48, 49, 50, 51, 52, 53, 54, 55, 56, 57, 65, 66, 67, 68, 69, 70][c.toNat / 16]? = some (hexC (c.toNat / 16)) ∧ c.toNat / 16 < 16 := by
  have := c.toNat_lt
  exact ⟨by omega, by omega, by omega, hex_at (by omega), by omega⟩
theorem hexR (c : UInt8) : (0 : Int) ≤ (c.toNat : Int) % 16 ∧ ((c.toNat : Int) % 16).toNat = c.toNat % 16 ∧ [48, 49, 50, 51, 52, 53, 54, 55, 56, 57, 65, 66, 67, 68, 69, 70][c.toNat % 16]? = some (hexC (c.toNat % 16)) := by
  have := c.toNat_lt
  exact ⟨by omega, by omega, hex_at (by omega)⟩

theorem escapeR_fn (s : Str) (hs : List.length s < 1000000) : Ctr Tryz.prog 71 [.d (.str s)] (.d (.str (escS s))) := by
  refine fn_of_vwp (fun i => decide (i < 1000000)) (by kernel_rfl) Tryz.func71 (by kernel_rfl) rfl rfl (Nat.le_of_ble_eq_true rfl) (by kernel_rfl) rfl rfl ?_
  simp -implicitDefEqProofs
  refine loopN (List.length s) (fun k τ => τ 0 = .d (.str s) ∧ τ 4 = .d (.int .i64 k) ∧ τ 3 = .own true 5 (bytesD (escS (s.take k)))) (by simp [escS, bytesD]) ?_
  rintro k τ hk ⟨h0, h4, h3⟩
  by_cases hlt : k < List.length s
  · simp -implicitDefEqProofs [h0, h3, h4, hlt]
    refine callK (plainR_fn s[k]) ?_
    have h5 := escS_len (s.take k)
    rw [List.length_take, Nat.min_eq_left (by omega)] at h5
    have h6 := escS_take hlt
    have h7 : (escB s[k]).length ≤ 3 := escB_len _
    by_cases hp : plainB s[k] = true
    · simp -implicitDefEqProofs [h0, h3, h4, hlt, hp, bytesD_length]
      refine ⟨by omega, by omega, again hlt ⟨by simp [h0], by simp, ?_⟩⟩
      simp [h6, escB, hp, bytesD]
    · obtain ⟨q1, q2, q3, q4, q5⟩ := hexQ s[k]
      obtain ⟨r1, r2, r3⟩ := hexR s[k]
      simp -implicitDefEqProofs [h0, h3, h4, hlt, hp, bytesD_length, q1, q2, q3, q4, r1, r2, r3]
      refine ⟨by decide, by omega, by omega, again hlt ⟨by simp [h0], by simp, ?_⟩⟩
      simp [h6, escB, hp, bytesD]
  · simp -implicitDefEqProofs [h0, h3, h4, hlt]
    rw [List.take_of_length_le (by omega)]

/-- A new variable gets a name, and so does a nil slice in it. -/
theorem newK2 {P : Program} {e : TypeId} {z : D} {σ : St} {d : Nat} {K : St → Prop} (j k : Nat) (e' : TypeId) (h1 : σ k = .undef) (h2 : (P.info? (ety e')).isSome = true) (h3 : σ j = .undef) (hjk : j ≠ k)
    (hK : ∀ g, K (put (put (put σ k (.hs (.slice none 0 0) e' [])) j (.hb (va g) e z)) d (.d (.raw (va g))))) : NewK P e z σ d K :=
  ⟨j, some (k, e'), ⟨h1, h2⟩, by simp [nilN, hjk, h3], hK⟩

theorem zTX61 : zeroTX Tryz.prog true 8 83 = .agg [.nilp, .raw (.slice none 0 0)] := by kernel_rfl

def BldAt (τ : St) (b : Nat) (s : Str) : Prop := ∃ p hd, (p = .nilp ∨ p = .raw (va b)) ∧ τ 1000000 = .hb (va b) 83 (.agg [p, .raw hd]) ∧ τ 1000001 = .hs hd 5 (bytesD s)

theorem escape_fn (s : Str) (hs : List.length s < 1000000) : Ctr Tryz.prog 68 [.d (.str s)] (.d (.str (escS s))) := by
  refine fn_of_vwp (fun i => i == 1000003 || i == 5000017 || i == 5000018 || i == 5000022 || i == 5000026 || i == 5000028) (by kernel_rfl) Tryz.func68 (by kernel_rfl) rfl rfl (Nat.le_of_ble_eq_true rfl) (by kernel_rfl) rfl rfl ?_
  simp -implicitDefEqProofs
  refine newK2 1000000 1000001 5 (by simp) (by kernel_rfl) (by simp) (by simp) (fun b => ?_)
  simp -implicitDefEqProofs
  refine loopN (List.length s) (fun k τ => τ 0 = .d (.str s) ∧ τ 8 = .d (.int .i64 k) ∧ τ 7 = .d (.int .i64 s.length) ∧ τ 3 = .d (.raw (va b)) ∧ BldAt τ b (escS (s.take k))) ?_ ?_
  · exact ⟨by simp, by simp, by simp, by simp, .nilp, .slice none 0 0, .inl rfl, by simp [zTX61], by simp [escS, bytesD]⟩
  rintro k τ hk ⟨h0, h8, h7, h3, p, hd, hp, hb, hh⟩
  by_cases hlt : k < List.length s
  · have h5 := escS_len (s.take k)
    rw [List.length_take, Nat.min_eq_left (by omega)] at h5
    have h6 := escS_take hlt
    simp -implicitDefEqProofs [h0, h3, h7, h8, hlt]
    refine callK (plain_fn s[k]) ?_
    by_cases hpl : plainB s[k] = true
    · simp -implicitDefEqProofs [h0, h3, h7, h8, hlt, hpl]
      refine givB [1000000, 1000001] 1000000 (writeByte_fn (s := escS (s.take k)) (hd := hd) hp s[k] (by omega)) (by simp [hb, hh]) rfl (by simp) ?_
      rintro r hs' ⟨hd1, rfl⟩
      simp -implicitDefEqProofs [h0, h3, h7, h8, hlt, takeH, putH]
      refine ⟨by omega, again hlt ⟨by simp [h0], by simp, by simp [h7], by simp [h3], .raw (va b), hd1, .inr rfl, by simp, by simp [h6, escB, hpl]⟩⟩
    · obtain ⟨q1, q2, q3, q4, q5⟩ := hexQ s[k]
      obtain ⟨r1, r2, r3⟩ := hexR s[k]
      simp -implicitDefEqProofs [h0, h3, h7, h8, hlt, hpl]
      refine givB [1000000, 1000001] 1000000 (writeByte_fn (s := escS (s.take k)) (hd := hd) hp 37 (by omega)) (by simp [hb, hh]) rfl (by simp) ?_
      rintro r hs' ⟨hd1, rfl⟩
      have hand : s[k].toNat &&& 15 = s[k].toNat % 16 := Nat.and_two_pow_sub_one_eq_mod s[k].toNat 4
      have hlt8 : s[k].toNat ≤ 255 := by have := s[k].toNat_lt; omega
      simp -implicitDefEqProofs [h0, h3, h7, h8, hlt, takeH, putH, q1, q2, q3, q4]
      refine givB [1000000, 1000001] 1000000 (writeByte_fn (b := b) (s := escS (s.take k) ++ [37]) (hd := hd1) (.inr rfl) (hexC (s[k].toNat / 16)) (by simp; omega)) (by simp) rfl (by simp) ?_
      rintro r hs' ⟨hd2, rfl⟩
      simp -implicitDefEqProofs [h0, h3, h7, h8, hlt, takeH, putH, hand, r3, q1, q2, r1, r2, hlt8]
      refine ⟨by omega, ?_⟩
      refine givB [1000000, 1000001] 1000000 (writeByte_fn (b := b) (s := escS (s.take k) ++ [37] ++ [hexC (s[k].toNat / 16)]) (hd := hd2) (.inr rfl) (hexC (s[k].toNat % 16)) (by simp; omega)) (by simp) rfl (by simp) ?_
      rintro r hs' ⟨hd3, rfl⟩
      simp -implicitDefEqProofs [h0, h3, h7, h8, hlt, takeH, putH]
      refine ⟨by omega, again hlt ⟨by simp [h0], by simp, by simp [h7], by simp [h3], .raw (va b), hd3, .inr rfl, by simp, by simp [h6, escB, hpl]⟩⟩
  · simp -implicitDefEqProofs [h0, h3, h7, h8, hlt]
    rw [List.take_of_length_le (by omega)] at hh
    refine givB [1000000, 1000001] 1000000 (string_fn (s := escS s) (hd := hd) hp) (by simp [hb, hh]) rfl (by simp) ?_
    rintro r hs' ⟨rfl, rfl⟩
    simp -implicitDefEqProofs [h0, h3, h7, h8, hlt, takeH, putH]
end Go.Proofs.Tz

/- Unescape: the plain law. -/
set_option linter.unusedVariables false
set_option linter.unusedSimpArgs false
namespace Go.Proofs.Tz
open Go.Vw Go.RowKit Go.Proofs

/-- A hexadecimal digit's value, or -1. -/
abbrev hexV (c : UInt8) : Int := ixB hexDs c
def hx (h l : UInt8) : UInt8 := UInt8.ofNat (16 * (hexV h).toNat + (hexV l).toNat)

def unesc : Str → Option Str
  | [] => some []
  | c :: r => if plainB c then (unesc r).map (c :: ·) else if c = 37 then (match r with
    | h :: l :: r' => if 0 ≤ hexV h ∧ 0 ≤ hexV l ∧ plainB (hx h l) = false then (unesc r').map (hx h l :: ·) else none
    | _ => none) else none
  termination_by s => s.length

def decR : Str → Option Str
  | [] => some []
  | c :: r => if c ≠ 37 then (decR r).map (c :: ·) else (match r with
    | h :: l :: r' => if 0 ≤ hexV h ∧ 0 ≤ hexV l then (decR r').map (hx h l :: ·) else none
    | _ => none)
  termination_by s => s.length

theorem unesc_nil : unesc [] = some [] := by rw [unesc.eq_def]
theorem unesc_cons (c : UInt8) (r : Str) : unesc (c :: r) = if plainB c then (unesc r).map (c :: ·) else if c = 37 then (match r with
    | h :: l :: r' => if 0 ≤ hexV h ∧ 0 ≤ hexV l ∧ plainB (hx h l) = false then (unesc r').map (hx h l :: ·) else none
    | _ => none) else none := by rw [unesc.eq_def]; rfl
theorem decR_nil : decR [] = some [] := by rw [decR.eq_def]
theorem decR_cons (c : UInt8) (r : Str) : decR (c :: r) = if c ≠ 37 then (decR r).map (c :: ·) else (match r with
    | h :: l :: r' => if 0 ≤ hexV h ∧ 0 ≤ hexV l then (decR r').map (hx h l :: ·) else none
    | _ => none) := by rw [decR.eq_def]; rfl

theorem hexV_hexC : ∀ n, n < 16 → hexV (hexC n) = n := by decide
theorem hexV_lt (c : UInt8) (h : 0 ≤ hexV c) : (hexV c).toNat < 16 := by
  have := ixB_lt h
  simpa using this
theorem hexC_hexV (c : UInt8) (h : 0 ≤ hexV c) : hexC (hexV c).toNat = c := by
  have h1 : ∀ (s : Str), 0 ≤ ixB s c → s.getD (ixB s c).toNat 0 = c := by
    intro s
    induction s with
    | nil => intro h; simp [ixB, Go.Lib.indexByte] at h
    | cons x s ih =>
      intro h
      have hge := Go.Lib.indexByte_ge s c
      simp only [ixB, Go.Lib.indexByte] at h ih ⊢
      by_cases hx : (x == c) = true
      · rw [if_pos hx]; simpa using hx
      · rw [if_neg hx] at h ⊢
        by_cases h2 : (Go.Lib.indexByte s c == -1) = true
        · rw [if_pos h2] at h; simp at h
        · rw [if_neg h2] at h ⊢
          have h3 : 0 ≤ Go.Lib.indexByte s c := by
            have : Go.Lib.indexByte s c ≠ -1 := by simpa using h2
            omega
          have h4 : (Go.Lib.indexByte s c + 1).toNat = (Go.Lib.indexByte s c).toNat + 1 := by omega
          rw [h4, List.getD_cons_succ]
          exact ih h3
  exact h1 hexDs h
theorem hx_nat (h l : UInt8) (h1 : 0 ≤ hexV h) (h2 : 0 ≤ hexV l) : (hx h l).toNat = 16 * (hexV h).toNat + (hexV l).toNat := by
  have := hexV_lt h h1
  have := hexV_lt l h2
  rw [hx, UInt8.toNat_ofNat']
  omega
theorem hx_hexC (c : UInt8) : hx (hexC (c.toNat / 16)) (hexC (c.toNat % 16)) = c := by
  have := c.toNat_lt
  rw [hx, hexV_hexC _ (by omega), hexV_hexC _ (by omega)]
  have : 16 * ((c.toNat / 16 : Nat) : Int).toNat + ((c.toNat % 16 : Nat) : Int).toNat = c.toNat := by omega
  rw [this, UInt8.ofNat_toNat]
theorem plain37 : plainB 37 = false := by decide

theorem unesc_esc (t : Str) : unesc (escS t) = some t := by
  induction t with
  | nil => simp [escS, unesc_nil]
  | cons c t ih =>
    have e : escS (c :: t) = escB c ++ escS t := by simp [escS]
    rw [e]
    have := c.toNat_lt
    by_cases hp : plainB c = true
    · simp [escB, hp, unesc_cons, ih]
    · have hp' : plainB c = false := by simpa using hp
      simp only [escB, hp', Bool.false_eq_true, if_false, List.cons_append, List.nil_append]
      rw [unesc_cons]
      simp only
      rw [hexV_hexC _ (by omega), hexV_hexC _ (by omega), hx_hexC]
      have b1 : (0 : Int) ≤ ((c.toNat / 16 : Nat) : Int) := Int.natCast_nonneg _
      have b2 : (0 : Int) ≤ ((c.toNat % 16 : Nat) : Int) := Int.natCast_nonneg _
      rw [if_neg (by simp [plain37]), if_pos trivial, if_pos ⟨b1, b2, hp'⟩, ih]
      rfl

theorem unesc_dec : ∀ (n : Nat) (s t : Str), s.length ≤ n → unesc s = some t → decR s = some t ∧ escS t = s := by
  intro n
  induction n with
  | zero =>
    intro s t hn h
    have : s = [] := List.length_eq_zero_iff.1 (by omega)
    subst this
    simp [unesc_nil] at h
    subst h
    simp [decR_nil, escS]
  | succ n ih =>
    intro s t hn h
    cases s with
    | nil => simp [unesc_nil] at h; subst h; simp [decR_nil, escS]
    | cons c r =>
      rw [unesc_cons] at h
      by_cases hp : plainB c = true
      · rw [if_pos hp] at h
        obtain ⟨u, hu, rfl⟩ := Option.map_eq_some_iff.1 h
        obtain ⟨h1, h2⟩ := ih r u (by simp at hn; omega) hu
        have hne : c ≠ 37 := by rintro rfl; simp [plain37] at hp
        rw [decR_cons, if_pos hne, h1]
        exact ⟨rfl, by simp [escS, escB, hp, ← h2]⟩
      · rw [if_neg hp] at h
        by_cases hc : c = 37
        · rw [if_pos hc] at h
          subst hc
          match r, h with
          | a :: l :: r', h =>
            simp only at h
            split at h
            · rename_i hh
              obtain ⟨u, hu, rfl⟩ := Option.map_eq_some_iff.1 h
              obtain ⟨h1, h2⟩ := ih r' u (by simp at hn; omega) hu
              rw [decR_cons]
              simp only [ne_eq, not_true_eq_false, if_false]
              rw [if_pos ⟨hh.1, hh.2.1⟩, h1]
              refine ⟨rfl, ?_⟩
              have e1 := hx_nat a l hh.1 hh.2.1
              have l1 := hexV_lt a hh.1
              have l2 := hexV_lt l hh.2.1
              have q1 : (hx a l).toNat / 16 = (hexV a).toNat := by omega
              have q2 : (hx a l).toNat % 16 = (hexV l).toNat := by omega
              have : escS (hx a l :: u) = escB (hx a l) ++ escS u := by simp [escS]
              rw [this, escB, hh.2.2, h2, q1, q2, hexC_hexV a hh.1, hexC_hexV l hh.2.1]
              simp
            · cases h
          | [a], h => simp at h
          | [], h => simp at h
        · rw [if_neg hc] at h; cases h

/-- What identityref02.Unescape computes. -/
theorem unescR_eq (s : Str) : (match decR s with
    | some t => if escS t = s then some t else none
    | none => none) = unesc s := by
  cases hu : unesc s with
  | some t =>
    obtain ⟨h1, h2⟩ := unesc_dec _ s t (Nat.le_refl _) hu
    rw [h1]; simp [h2]
  | none =>
    cases hd : decR s with
    | none => rfl
    | some t =>
      by_cases he : escS t = s
      · have := unesc_esc t
        rw [he, hu] at this
        cases this
      · simp [he]

theorem drop_s {s : Str} {k : Nat} (h : k < List.length s) : s.drop k = s[k] :: s.drop (k + 1) := List.drop_eq_getElem_cons h
end Go.Proofs.Tz

/- Unescape: the walks. -/
set_option maxRecDepth 100000
set_option maxHeartbeats 4000000
set_option linter.unusedVariables false
set_option linter.unusedSimpArgs false
namespace Go.Proofs.Tz
open Go.Vw Go.RowKit Go.Proofs

theorem again' {N k k' : Nat} {I : Nat → St → Prop} {τ : St} (hk : k < k') (hk' : k' ≤ N) (h : I k' τ) : Again N k I τ := ⟨N - k', by omega, k', hk', rfl, h⟩

theorem ixB_at {c : UInt8} : ∀ {s : Str} {k : Nat} (h : k < s.length), s[k] = c → c ∉ s.take k → ixB s c = k
  | [], k, h, _, _ => by simp at h
  | x :: s, 0, h, he, _ => by
    simp only [List.getElem_cons_zero] at he
    simp [ixB, Go.Lib.indexByte, he]
  | x :: s, k + 1, h, he, hn => by
    simp only [List.take_succ_cons, List.mem_cons, not_or] at hn
    have := ixB_at (s := s) (k := k) (by simpa using h) (by simpa using he) hn.2
    have hx : (x == c) = false := by simpa using fun e => hn.1 e.symm
    simp only [ixB] at this
    simp only [ixB, Go.Lib.indexByte, hx, this]
    have h2 : ((k : Int) == -1) = false := by simp
    simp [h2]
theorem ixB_no {s : Str} {c : UInt8} (h : c ∉ s) : ixB s c = -1 := by
  have h1 := (ixB_neg s c).2 h
  have h2 := ixB_ge s c
  omega

theorem digitH_fn (c : UInt8) : Ctr Tryz.prog 144 [.d (.int .u8 c.toNat)] (.d (.int .i64 (ixB hexDs c))) := by
  refine fn_of_vwp (fun _ => false) (by kernel_rfl) Tryz.func144 (by kernel_rfl) rfl rfl (Nat.le_of_ble_eq_true rfl) (by kernel_rfl) rfl rfl ?_
  simp -implicitDefEqProofs
  refine loopN 16 (fun k τ => τ 0 = .d (.int .u8 c.toNat) ∧ τ 3 = .d (.int .i64 k) ∧ c ∉ hexDs.take k) (by simp) ?_
  rintro k τ hk ⟨h0, h3, hn⟩
  by_cases hlt : k < 16
  · have hix : [48, 49, 50, 51, 52, 53, 54, 55, 56, 57, 65, 66, 67, 68, 69, 70][k]? = some (hexC k) := hex_at hlt
    have hlt' : (k : Int) < 16 := by omega
    have hget : ∀ h : k < hexDs.length, hexDs[k] = hexC k := fun h => by
      have := hex_at hlt
      rw [List.getElem?_eq_getElem h] at this
      simpa using this
    by_cases he : (hexC k).toNat = c.toNat
    · have he2 : hexC k = c := UInt8.toNat_inj.1 he
      simp -implicitDefEqProofs [h0, h3, hlt', hix, he]
      exact (ixB_at (by simpa using hlt) (by rw [hget]; exact he2) hn).symm
    · have he1 : ¬ ((hexC k).toNat : Int) = c.toNat := by omega
      have he2 : hexC k ≠ c := fun e => he (by rw [e])
      simp -implicitDefEqProofs [h0, h3, hlt', hix, he1]
      refine ⟨by omega, again hlt ⟨by simp [h0], by simp, ?_⟩⟩
      rw [take_s (show k < hexDs.length by simpa using hlt), List.mem_append, List.mem_singleton]
      rintro (h | h)
      · exact hn h
      · exact he2 (by rw [h, hget])
  · have hk16 : k = 16 := by omega
    subst hk16
    simp -implicitDefEqProofs [h0, h3]
    exact (ixB_no (by simpa using hn)).symm

def unescP (s : Str) : Str × Int := match unesc s with
  | some t => (t, 0)
  | none => ([], 4)

theorem unesc_len : ∀ (n : Nat) (s t : Str), s.length ≤ n → unesc s = some t → t.length ≤ s.length := by
  intro n
  induction n with
  | zero =>
    intro s t hn h
    have : s = [] := List.length_eq_zero_iff.1 (by omega)
    subst this
    simp [unesc_nil] at h
    subst h; simp
  | succ n ih =>
    intro s t hn h
    cases s with
    | nil => simp [unesc_nil] at h; subst h; simp
    | cons c r =>
      rw [unesc_cons] at h
      split at h
      · obtain ⟨u, hu, rfl⟩ := Option.map_eq_some_iff.1 h
        have := ih r u (by simpa using hn) hu
        simpa using this
      · split at h
        · split at h
          · split at h
            · obtain ⟨u, hu, rfl⟩ := Option.map_eq_some_iff.1 h
              have := ih _ u (by simp at hn; omega) hu
              simp at this ⊢; omega
            · cases h
          · cases h
        · cases h

theorem unesc_short {r : Str} (h : r.length ≤ 1) : unesc (37 :: r) = none := by
  rw [unesc_cons, if_neg (by simp [plain37]), if_pos rfl]
  match r, h with
  | [], _ => rfl
  | [_], _ => rfl
  | _ :: _ :: _, h => simp at h
theorem unesc_two (a l : UInt8) (r : Str) : unesc (37 :: a :: l :: r) = if 0 ≤ hexV a ∧ 0 ≤ hexV l ∧ plainB (hx a l) = false then (unesc r).map (hx a l :: ·) else none := by
  rw [unesc_cons, if_neg (by simp [plain37]), if_pos rfl]
theorem unesc_bad {c : UInt8} {r : Str} (h1 : ¬ plainB c = true) (h2 : c ≠ 37) : unesc (c :: r) = none := by
  rw [unesc_cons, if_neg h1, if_neg h2]
theorem unescP_none {s : Str} (h : unesc s = none) : unescP s = ([], 4) := by simp [unescP, h]
theorem unescP_some {s t : Str} (h : unesc s = some t) : unescP s = (t, 0) := by simp [unescP, h]

theorem unescape_fn (s : Str) (hs : List.length s < 1000000) : Ctr Tryz.prog 109 [.d (.str s)] (.tup [.d (.str (unescP s).1), .d (.int .i64 (unescP s).2)]) := by
  refine fn_of_vwpN (rv := .tmp 2) (rs := [.tmp 3]) (r := .d (.str (unescP s).1)) (ys := [.d (.int .i64 (unescP s).2)]) (fun i => i == 1000004 || i == 5000021 || i == 5000062 || i == 5000065) (by kernel_rfl) Tryz.func109 (by kernel_rfl) rfl rfl (by simp) (Nat.le_of_ble_eq_true rfl) (by kernel_rfl) rfl rfl ?_
  simp -implicitDefEqProofs
  refine newK2 1000000 1000001 5 (by simp) (by kernel_rfl) (by simp) (by simp) (fun b => ?_)
  simp -implicitDefEqProofs
  refine loopN (List.length s) (fun k τ => τ 0 = .d (.str s) ∧ τ 5 = .d (.int .i64 k) ∧ τ 4 = .d (.raw (va b)) ∧ ∃ out, BldAt τ b out ∧ out.length ≤ k ∧ unesc s = (unesc (s.drop k)).map (out ++ ·)) ?_ ?_
  · exact ⟨by simp, by simp, by simp, [], ⟨.nilp, .slice none 0 0, .inl rfl, by simp [zTX61], by simp [bytesD]⟩, by simp, by simp⟩
  rintro k τ hk ⟨h0, h5, h4, out, ⟨p, hd, hp, hb, hh⟩, hol, hu⟩
  by_cases hlt : k < List.length s
  · have hdr := drop_s hlt
    simp -implicitDefEqProofs [h0, h4, h5, hlt]
    refine callK (plain_fn s[k]) ?_
    by_cases hpl : plainB s[k] = true
    · simp -implicitDefEqProofs [h0, h4, h5, hlt, hpl]
      refine givB [1000000, 1000001] 1000000 (writeByte_fn (s := out) (hd := hd) hp s[k] (by omega)) (by simp [hb, hh]) rfl (by simp) ?_
      rintro r hs' ⟨hd1, rfl⟩
      simp -implicitDefEqProofs [h0, h4, h5, hlt, takeH, putH]
      refine ⟨by omega, again hlt ⟨by simp [h0], by simp, by simp [h4], out ++ [s[k]], ⟨.raw (va b), hd1, .inr rfl, by simp, by simp⟩, by simp; omega, ?_⟩⟩
      rw [hu, hdr, unesc_cons, if_pos hpl]
      cases unesc (s.drop (k + 1)) <;> simp
    · by_cases h37 : (s[k].toNat : Int) = 37
      · have h37' : s[k] = 37 := (u8_int s[k] 37 (by omega)).1 h37
        by_cases h2 : (List.length s : Int) ≤ (k : Int) + 2
        · simp -implicitDefEqProofs [h0, h4, h5, hlt, hpl, h37, h2]
          refine ⟨by omega, ?_⟩
          rw [hdr, h37', unesc_short (by simp; omega)] at hu
          simp [unescP_none hu]
        · have l1 : k + 1 < List.length s := by omega
          have l2 : k + 2 < List.length s := by omega
          have i1 : (0 : Int) ≤ (k : Int) + 1 := by omega
          have i2 : (0 : Int) ≤ (k : Int) + 2 := by omega
          have j1 : ((k : Int) + 1).toNat = k + 1 := by omega
          have j2 : ((k : Int) + 2).toNat = k + 2 := by omega
          have g1 : s[k + 1]? = some s[k + 1] := List.getElem?_eq_getElem l1
          have g2 : s[k + 2]? = some s[k + 2] := List.getElem?_eq_getElem l2
          have hdr2 : s.drop k = 37 :: s[k + 1] :: s[k + 2] :: s.drop (k + 3) := by rw [hdr, h37', drop_s l1, drop_s l2]
          rw [hdr2, unesc_two] at hu
          simp only [hexV] at hu
          simp -implicitDefEqProofs [h0, h4, h5, hlt, hpl, h37, h2, i1, i2, j1, j2, g1, g2]
          refine ⟨by omega, by omega, callP (indexByte_fn hexDs s[k + 1]) ?_⟩
          simp -implicitDefEqProofs [h0, h4, h5, hlt, hpl, h37, h2, i1, i2, j1, j2, g1, g2]
          refine ⟨by omega, callP (indexByte_fn hexDs s[k + 2]) ?_⟩
          by_cases v1 : ixB hexDs s[k + 1] < 0
          · simp -implicitDefEqProofs [h0, h4, h5, hlt, v1]
            rw [if_neg (by omega)] at hu
            simp [unescP_none hu]
          by_cases v2 : ixB hexDs s[k + 2] < 0
          · simp -implicitDefEqProofs [h0, h4, h5, hlt, v1, v2]
            rw [if_neg (by omega)] at hu
            simp [unescP_none hu]
          have u1 : 0 ≤ ixB hexDs s[k + 1] := by omega
          have u2 : 0 ≤ ixB hexDs s[k + 2] := by omega
          have w1 : (ixB hexDs s[k + 1]).toNat < 16 := hexV_lt s[k + 1] u1
          have w2 : (ixB hexDs s[k + 2]).toNat < 16 := hexV_lt s[k + 2] u2
          have x1 : (hx s[k + 1] s[k + 2]).toNat = 16 * (ixB hexDs s[k + 1]).toNat + (ixB hexDs s[k + 2]).toNat := hx_nat s[k + 1] s[k + 2] u1 u2
          obtain ⟨A, hA⟩ := Int.eq_ofNat_of_zero_le u1
          obtain ⟨B, hB⟩ := Int.eq_ofNat_of_zero_le u2
          have v3 : ¬ ((A : Int) < 0) := by omega
          have v4 : ¬ ((B : Int) < 0) := by omega
          simp only [hA, hB, Int.toNat_natCast] at w1 w2 x1
          have hor : ((A : Int) * 16).toNat ||| B = (hx s[k + 1] s[k + 2]).toNat := by
            have e1 : ((A : Int) * 16).toNat = 2 ^ 4 * A := by omega
            rw [e1, x1, ← Nat.two_pow_add_eq_or_of_lt (by omega : B < 2 ^ 4)]
          have h8 : (hx s[k + 1] s[k + 2]).toNat ≤ 255 := by omega
          simp -implicitDefEqProofs [h0, h4, h5, hlt, hA, hB, v3, v4, hor]
          refine ⟨by omega, by omega, by omega, by omega, by omega, callK (plain_fn (hx s[k + 1] s[k + 2])) ?_⟩
          by_cases hpx : plainB (hx s[k + 1] s[k + 2]) = true
          · simp -implicitDefEqProofs [h0, h4, h5, hlt, hA, hB, v3, v4, hpx]
            rw [if_neg (by simp [hpx])] at hu
            simp [unescP_none hu]
          · have hpx' : plainB (hx s[k + 1] s[k + 2]) = false := by simpa using hpx
            simp -implicitDefEqProofs [h0, h4, h5, hlt, hA, hB, v3, v4, hor, hpx]
            refine ⟨by omega, by omega, by omega, by omega, by omega, ?_⟩
            refine givB [1000000, 1000001] 1000000 (writeByte_fn (s := out) (hd := hd) hp (hx s[k + 1] s[k + 2]) (by omega)) (by simp [hb, hh]) rfl (by simp) ?_
            rintro r hs' ⟨hd1, rfl⟩
            simp -implicitDefEqProofs [h0, h4, h5, hlt, takeH, putH]
            refine ⟨by omega, by omega, again' (k' := k + 3) (by omega) (by omega) ⟨by simp [h0], by simp; omega, by simp [h4], out ++ [hx s[k + 1] s[k + 2]], ⟨.raw (va b), hd1, .inr rfl, by simp, by simp⟩, by simp; omega, ?_⟩⟩
            rw [if_pos ⟨u1, u2, hpx'⟩] at hu
            rw [hu]
            cases unesc (s.drop (k + 3)) <;> simp
      · have h37' : s[k] ≠ 37 := fun e => h37 ((u8_int s[k] 37 (by omega)).2 e)
        rw [hdr, unesc_bad hpl h37'] at hu
        simp -implicitDefEqProofs [h0, h4, h5, hlt, hpl, h37]
        simp [unescP_none hu]
  · simp -implicitDefEqProofs [h0, h4, h5, hlt]
    rw [List.drop_of_length_le (by omega), unesc_nil] at hu
    simp only [Option.map_some, List.append_nil] at hu
    refine givB [1000000, 1000001] 1000000 (string_fn (s := out) (hd := hd) hp) (by simp [hb, hh]) rfl (by simp) ?_
    rintro r hs' ⟨rfl, rfl⟩
    simp -implicitDefEqProofs [h0, h4, h5, hlt, takeH, putH, unescP_some hu]

/-- The raw decoding from a place on. -/
theorem decR_short {r : Str} (h : r.length ≤ 1) : decR (37 :: r) = none := by
  rw [decR_cons, if_neg (by simp)]
  match r, h with
  | [], _ => rfl
  | [_], _ => rfl
  | _ :: _ :: _, h => simp at h
theorem decR_two (a l : UInt8) (r : Str) : decR (37 :: a :: l :: r) = if 0 ≤ ixB hexDs a ∧ 0 ≤ ixB hexDs l then (decR r).map (hx a l :: ·) else none := by
  rw [decR_cons, if_neg (by simp)]

def outP (s : Str) : Option Str → Str × Int
  | some t => if escS t = s then (t, 0) else ([], 4)
  | none => ([], 4)
theorem unescP_R {s : Str} {o : Option Str} (h : decR s = o) : unescP s = outP s o := by
  subst h
  rw [unescP, ← unescR_eq]
  cases decR s with
  | none => rfl
  | some t => by_cases he : escS t = s <;> simp [he, outP]

theorem unescapeR_fn (s : Str) (hs : List.length s < 1000000) : Ctr Tryz.prog 111 [.d (.str s)] (.tup [.d (.str (unescP s).1), .d (.int .i64 (unescP s).2)]) := by
  refine fn_of_vwpN (rv := .tmp 2) (rs := [.tmp 3]) (r := .d (.str (unescP s).1)) (ys := [.d (.int .i64 (unescP s).2)]) (fun i => decide (i < 1000000)) (by kernel_rfl) Tryz.func111 (by kernel_rfl) rfl rfl (by simp) (Nat.le_of_ble_eq_true rfl) (by kernel_rfl) rfl rfl ?_
  simp -implicitDefEqProofs
  refine loopN (List.length s) (fun k τ => τ 0 = .d (.str s) ∧ τ 5 = .d (.int .i64 k) ∧ ∃ out, τ 4 = .own true 5 (bytesD out) ∧ out.length ≤ k ∧ decR s = (decR (s.drop k)).map (out ++ ·)) ?_ ?_
  · exact ⟨by simp, by simp, [], by simp [bytesD], by simp, by simp⟩
  rintro k τ hk ⟨h0, h5, out, h4, hol, hu⟩
  by_cases hlt : k < List.length s
  · have hdr := drop_s hlt
    by_cases h37 : (s[k].toNat : Int) = 37
    · have h37' : s[k] = 37 := (u8_int s[k] 37 (by omega)).1 h37
      by_cases h2 : (List.length s : Int) ≤ (k : Int) + 2
      · simp -implicitDefEqProofs [h0, h4, h5, hlt, h37, h2]
        refine ⟨by omega, ?_⟩
        rw [hdr, h37', decR_short (by simp; omega)] at hu
        simp [unescP_R hu, outP]
      · have l1 : k + 1 < List.length s := by omega
        have l2 : k + 2 < List.length s := by omega
        have i1 : (0 : Int) ≤ (k : Int) + 1 := by omega
        have i2 : (0 : Int) ≤ (k : Int) + 2 := by omega
        have j1 : ((k : Int) + 1).toNat = k + 1 := by omega
        have j2 : ((k : Int) + 2).toNat = k + 2 := by omega
        have g1 : s[k + 1]? = some s[k + 1] := List.getElem?_eq_getElem l1
        have g2 : s[k + 2]? = some s[k + 2] := List.getElem?_eq_getElem l2
        have hdr2 : s.drop k = 37 :: s[k + 1] :: s[k + 2] :: s.drop (k + 3) := by rw [hdr, h37', drop_s l1, drop_s l2]
        rw [hdr2, decR_two] at hu
        simp -implicitDefEqProofs [h0, h4, h5, hlt, h37, h2, i1, i2, j1, j2, g1, g2]
        refine ⟨by omega, by omega, callK (digitH_fn s[k + 1]) ?_⟩
        by_cases v1 : ixB hexDs s[k + 1] < 0
        · simp -implicitDefEqProofs [h0, h4, h5, hlt, h2, v1]
          rw [if_neg (by omega)] at hu
          simp [unescP_R hu, outP]
        simp -implicitDefEqProofs [h0, h4, h5, hlt, h37, h2, i1, i2, j1, j2, g1, g2, v1]
        refine ⟨by omega, callK (digitH_fn s[k + 2]) ?_⟩
        by_cases v2 : ixB hexDs s[k + 2] < 0
        · simp -implicitDefEqProofs [h0, h4, h5, hlt, h2, v1, v2]
          rw [if_neg (by omega)] at hu
          simp [unescP_R hu, outP]
        have u1 : 0 ≤ ixB hexDs s[k + 1] := by omega
        have u2 : 0 ≤ ixB hexDs s[k + 2] := by omega
        have w1 : (ixB hexDs s[k + 1]).toNat < 16 := hexV_lt s[k + 1] u1
        have w2 : (ixB hexDs s[k + 2]).toNat < 16 := hexV_lt s[k + 2] u2
        have x1 : (hx s[k + 1] s[k + 2]).toNat = 16 * (ixB hexDs s[k + 1]).toNat + (ixB hexDs s[k + 2]).toNat := hx_nat s[k + 1] s[k + 2] u1 u2
        simp -implicitDefEqProofs [h0, h4, h5, hlt, h37, h2, i1, i2, j1, j2, g1, g2, v1, v2]
        refine ⟨by omega, callP (digitH_fn s[k + 1]) ?_⟩
        simp -implicitDefEqProofs [h0, h4, h5, hlt, h37, h2, i1, i2, j1, j2, g1, g2, v1, v2]
        refine ⟨by omega, by omega, callP (digitH_fn s[k + 2]) ?_⟩
        have hsum : 16 * ixB hexDs s[k + 1] + ixB hexDs s[k + 2] = ((hx s[k + 1] s[k + 2]).toNat : Int) := by omega
        have h8 : (hx s[k + 1] s[k + 2]).toNat ≤ 255 := by omega
        simp -implicitDefEqProofs [h0, h4, h5, hlt, h37, h2, i1, i2, j1, j2, g1, g2, v1, v2, hsum, h8, bytesD_length]
        refine ⟨by omega, by omega, by omega, by omega, by omega, again' (k' := k + 3) (by omega) (by omega) ⟨by simp [h0], by simp; omega, out ++ [hx s[k + 1] s[k + 2]], by simp [bytesD], by simp; omega, ?_⟩⟩
        rw [if_pos ⟨u1, u2⟩] at hu
        rw [hu]
        cases decR (s.drop (k + 3)) <;> simp
    · have h37' : s[k] ≠ 37 := fun e => h37 ((u8_int s[k] 37 (by omega)).2 e)
      rw [hdr, decR_cons, if_pos h37'] at hu
      simp -implicitDefEqProofs [h0, h4, h5, hlt, h37, bytesD_length]
      refine ⟨by omega, by omega, again hlt ⟨by simp [h0], by simp, out ++ [s[k]], by simp [bytesD], by simp; omega, ?_⟩⟩
      rw [hu]
      cases decR (s.drop (k + 1)) <;> simp
  · rw [List.drop_of_length_le (by omega), decR_nil] at hu
    simp only [Option.map_some, List.append_nil] at hu
    simp -implicitDefEqProofs [h0, h4, h5, hlt]
    refine callK (escapeR_fn out (by omega)) ?_
    by_cases he : escS out = s
    · simp -implicitDefEqProofs [h0, h4, h5, hlt, he, unescP_R hu, outP]
    · simp -implicitDefEqProofs [h0, h4, h5, hlt, he, unescP_R hu, outP]
end Go.Proofs.Tz

/- strings.Split at one byte. -/
set_option maxRecDepth 100000
set_option maxHeartbeats 4000000
set_option linter.unusedVariables false
set_option linter.unusedSimpArgs false
namespace Go.Proofs.Tz
open Go.Vw Go.RowKit Go.Proofs

/-- The pieces between the bytes c. -/
def splitB (c : UInt8) : Str → List Str
  | [] => [[]]
  | x :: s => if x = c then [] :: splitB c s else (match splitB c s with
    | p :: ps => (x :: p) :: ps
    | [] => [[x]])

theorem splitB_ne (c : UInt8) (s : Str) : splitB c s ≠ [] := by
  cases s with
  | nil => simp [splitB]
  | cons x s =>
    simp only [splitB]
    split
    · simp
    · cases splitB c s <;> simp
theorem splitB_len (c : UInt8) (s : Str) : (splitB c s).length = s.count c + 1 := by
  induction s with
  | nil => simp [splitB]
  | cons x s ih =>
    simp only [splitB]
    by_cases hx : x = c
    · simp [hx, ih]
    · rw [if_neg hx]
      have h2 : (x :: s).count c = s.count c := by simp [List.count_cons, hx]
      rw [h2, ← ih]
      cases hs : splitB c s with
      | nil => exact absurd hs (splitB_ne c s)
      | cons p ps => simp
theorem splitB_none {c : UInt8} {s : Str} (h : c ∉ s) : splitB c s = [s] := by
  induction s with
  | nil => rfl
  | cons x s ih =>
    simp only [List.mem_cons, not_or] at h
    simp only [splitB, if_neg (fun e : x = c => h.1 e.symm), ih h.2]
theorem splitB_at {c : UInt8} : ∀ {s : Str} {k : Nat}, ixB s c = k → splitB c s = s.take k :: splitB c (s.drop (k + 1))
  | [], k, h => by simp [ixB, Go.Lib.indexByte] at h
  | x :: s, k, h => by
    have hge := Go.Lib.indexByte_ge s c
    simp only [ixB, Go.Lib.indexByte] at h
    by_cases hx : x = c
    · simp only [hx, beq_self_eq_true, if_true] at h
      obtain rfl : k = 0 := by omega
      simp [splitB, hx]
    · have hx' : (x == c) = false := by simpa using hx
      simp only [hx', Bool.false_eq_true, if_false] at h
      by_cases h2 : Go.Lib.indexByte s c = -1
      · simp [h2] at h
      · have h3 : (Go.Lib.indexByte s c == -1) = false := by simpa using h2
        simp only [h3, Bool.false_eq_true, if_false] at h
        obtain ⟨k', rfl⟩ : ∃ k', k = k' + 1 := ⟨k - 1, by omega⟩
        have ih := splitB_at (s := s) (k := k') (by show Go.Lib.indexByte s c = _; omega)
        simp only [splitB, if_neg hx, ih, List.take_succ_cons, List.drop_succ_cons]
theorem count_at {c : UInt8} {s : Str} {k : Nat} (h : ixB s c = k) : s.count c = (s.drop (k + 1)).count c + 1 := by
  have h1 := splitB_len c s
  rw [splitB_at h, List.length_cons, splitB_len] at h1
  omega
theorem count_zero {c : UInt8} {s : Str} (h : ixB s c < 0) : s.count c = 0 := List.count_eq_zero.2 ((ixB_neg s c).1 h)

theorem strIndex_fn (s : Str) (c : UInt8) (hl : s.length ≤ 140737488355328) : Ctr Tryz.prog 168 [.d (.str s), .d (.str [c])] (.d (.int .i64 (ixB s c))) := by
  refine fn_of_vwp (fun _ => false) (by kernel_rfl) Tryz.func168 (by kernel_rfl) rfl rfl (Nat.le_of_ble_eq_true rfl) (by kernel_rfl) rfl rfl ?_
  simp -implicitDefEqProofs
  refine callK (indexL_fn s c hl) ?_
  simp -implicitDefEqProofs

theorem rep_at {done : List Str} {k n : Nat} (hd : done.length = k) : (done.map D.str ++ List.replicate (n + 1) (D.str []))[k]? = some (.str []) := by
  rw [List.getElem?_append_right (by simp [hd])]
  simp [hd]
theorem rep_set {done : List Str} {k n : Nat} (hd : done.length = k) (p : Str) : (done.map D.str ++ List.replicate (n + 1) (D.str [])).set k (.str p) = (done ++ [p]).map D.str ++ List.replicate n (D.str []) := by
  rw [List.set_append_right _ _ (by simp [hd])]
  simp [hd, List.replicate_succ]
theorem genSplit_fn (s : Str) (c : UInt8) (hl : s.length < 1000000) : Ctr Tryz.prog 143 [.d (.str s), .d (.str [c]), .d (.int .i64 0), .d (.int .i64 (-1))] (.own true 9 ((splitB c s).map .str)) := by
  refine fn_of_vwp (fun i => decide (i < 1000000)) (by kernel_rfl) Tryz.func143 (by kernel_rfl) rfl rfl (Nat.le_of_ble_eq_true rfl) (by kernel_rfl) rfl rfl ?_
  simp -implicitDefEqProofs
  refine callK (count_fn s c (by omega)) ?_
  have hc : s.count c ≤ s.length := List.count_le_length
  have hnc : ¬ List.length s < s.count c := by omega
  have z1 : ((s.count c : Int) + 1 - 1) = (s.count c : Int) := by omega
  have z2 : ((s.count c : Int) + 1).toNat = s.count c + 1 := by omega
  simp -implicitDefEqProofs [hnc, z1, z2]
  refine ⟨by omega, by omega, by omega, by omega, by omega, by omega, ?_⟩
  refine loopN (s.count c) (fun k τ => τ 1 = .d (.str [c]) ∧ τ 2 = .d (.int .i64 0) ∧ τ 3 = .d (.int .i64 (s.count c)) ∧ τ 10 = .d (.int .i64 k) ∧ ∃ rest done, τ 0 = .d (.str rest) ∧ List.length done = k ∧ List.length rest ≤ List.length s ∧
    τ 9 = .own true 9 (done.map .str ++ List.replicate (s.count c - k + 1) (.str [])) ∧ splitB c s = done ++ splitB c rest ∧ rest.count c = s.count c - k) ?_ ?_
  · refine ⟨by simp, by simp, by simp [z1], by simp, s, [], by simp, by simp, by simp, by simp, by simp, by simp⟩
  rintro k τ hk ⟨h1, h2, h3, h10, rest, done, h0, hd, hrl, h9, hsp, hct⟩
  by_cases hlt : k < s.count c
  · have hlt' : (k : Int) < (s.count c : Int) := by omega
    simp -implicitDefEqProofs [h0, h1, h2, h3, h9, h10, hlt']
    refine callK (strIndex_fn rest c (by omega)) ?_
    have hin : ¬ ixB rest c < 0 := fun h => by have := count_zero h; omega
    obtain ⟨m, hm⟩ := Int.eq_ofNat_of_zero_le (show 0 ≤ ixB rest c by omega)
    have hml := ixB_lt (show 0 ≤ ixB rest c by omega)
    simp only [hm, Int.toNat_natCast] at hml
    have hm0 : ¬ ((m : Int) < 0) := by omega
    have hm1 : (0 : Int) ≤ (m : Int) + 1 := by omega
    have hm2 : ((m : Int) + 1).toNat = m + 1 := by omega
    have hg : ∀ h, (done.map D.str ++ List.replicate (s.count c - k + 1) (D.str []))[k]'h = D.str [] := fun h => by
      have := rep_at (n := s.count c - k) hd
      rw [List.getElem?_eq_getElem h] at this
      simpa using this
    have hk1 : (0 : Int) ≤ (k : Int) + 1 := by omega
    have hkd : k < List.length done + (s.count c - k + 1) := by omega
    have hs := rep_set (n := s.count c - k) hd (rest.take m)
    simp -implicitDefEqProofs [h0, h1, h2, h3, h9, h10, hlt', hm, hm0, hm1, hm2, hg, hkd, hs, hk1]
    have hsp2 := splitB_at hm
    have hct2 := count_at hm
    refine ⟨by omega, by omega, by omega, by omega, by omega, again hlt ⟨by simp [h1], by simp [h2], by simp [h3], by simp, rest.drop (m + 1), ?_, done ++ [rest.take m], by simp [hd], by simp; omega, ?_, ?_, by omega⟩⟩
    · simp
      rw [List.take_of_length_le (by simp)]
    · simp
      have : s.count c - k = s.count c - (k + 1) + 1 := by omega
      rw [this]
    · rw [hsp, hsp2]; simp
  · have hke : k = s.count c := by omega
    have hlt' : ¬ (k : Int) < (s.count c : Int) := by omega
    have hg : ∀ h, (done.map D.str ++ List.replicate (s.count c - k + 1) (D.str []))[k]'h = D.str [] := fun h => by
      have := rep_at (n := s.count c - k) hd
      rw [List.getElem?_eq_getElem h] at this
      simpa using this
    have hk1 : (0 : Int) ≤ (k : Int) + 1 := by omega
    have hkd : k < List.length done + (s.count c - k + 1) := by omega
    have hs := rep_set (n := s.count c - k) hd rest
    simp -implicitDefEqProofs [h0, h1, h2, h3, h9, h10, hlt', hg, hkd, hs, hk1]
    have hrest : splitB c rest = [rest] := splitB_none (List.count_eq_zero.1 (by omega))
    refine ⟨by omega, by omega, ?_⟩
    rw [hsp, hrest]
    have : (done.map D.str).length = k := by simp [hd]
    rw [List.take_append, List.take_of_length_le (by omega), this]
    simp

theorem split_fn (s : Str) (c : UInt8) (hl : s.length < 1000000) : Ctr Tryz.prog 108 [.d (.str s), .d (.str [c])] (.own true 9 ((splitB c s).map .str)) := by
  refine fn_of_vwp (fun i => decide (i < 1000000)) (by kernel_rfl) Tryz.func108 (by kernel_rfl) rfl rfl (Nat.le_of_ble_eq_true rfl) (by kernel_rfl) rfl rfl ?_
  simp -implicitDefEqProofs
  refine callK (genSplit_fn s c hl) ?_
  simp -implicitDefEqProofs
end Go.Proofs.Tz

/- General facts on lists, pieces of strings and their escapes (no program in sight). -/
set_option linter.unusedVariables false
set_option linter.unusedSimpArgs false
namespace Go.Proofs.Tz
open Go.Vw Go.RowKit Go.Proofs

theorem drop_c {α : Type} {l : List α} {k : Nat} (h : k < l.length) : l.drop k = l[k] :: l.drop (k + 1) := List.drop_eq_getElem_cons h
def unescL : List Str → Option (List Str)
  | [] => some []
  | p :: ps => match unesc p with
    | some x => (unescL ps).map (x :: ·)
    | none => none
theorem unescL_app : ∀ (a b : List Str), unescL (a ++ b) = match unescL a with
    | some x => (unescL b).map (x ++ ·)
    | none => none
  | [], b => by simp [unescL]
  | p :: a, b => by
    simp only [List.cons_append, unescL, unescL_app a b]
    cases unesc p with
    | none => rfl
    | some x =>
      cases unescL a with
      | none => rfl
      | some y => cases unescL b <;> simp
theorem unescL_len : ∀ {a x : List Str}, unescL a = some x → x.length = a.length
  | [], x, h => by simp [unescL] at h; subst h; rfl
  | p :: a, x, h => by
    simp only [unescL] at h
    split at h
    · obtain ⟨y, hy, rfl⟩ := Option.map_eq_some_iff.1 h
      simp [unescL_len hy]
    · cases h
theorem unescL_fit : ∀ {a x : List Str} {n : Nat}, unescL a = some x → (∀ p ∈ a, List.length p ≤ n) → ∀ y ∈ x, List.length y ≤ n
  | [], x, n, h, _ => by simp [unescL] at h; subst h; simp
  | p :: a, x, n, h, hn => by
    simp only [unescL] at h
    split at h
    · rename_i z hz
      obtain ⟨y, hy, rfl⟩ := Option.map_eq_some_iff.1 h
      intro q hq
      rcases List.mem_cons.1 hq with rfl | hq
      · exact Nat.le_trans (unesc_len _ _ _ (Nat.le_refl _) hz) (hn p (by simp))
      · exact unescL_fit hy (fun p hp => hn p (by simp [hp])) q hq
    · cases h
theorem splitB_le (c : UInt8) : ∀ (s : Str), ∀ p ∈ splitB c s, List.length p ≤ s.length
  | [], p, hp => by simp [splitB] at hp; subst hp; simp
  | x :: s, p, hp => by
    simp only [splitB] at hp
    split at hp
    · rcases List.mem_cons.1 hp with rfl | hp
      · simp
      · have := splitB_le c s p hp; simp; omega
    · cases hs : splitB c s with
      | nil => rw [hs] at hp; simp at hp; subst hp; simp
      | cons q qs =>
        rw [hs] at hp
        simp only at hp
        have ih := splitB_le c s
        rw [hs] at ih
        rcases List.mem_cons.1 hp with rfl | hp
        · have := ih q (by simp); simp; omega
        · have := ih p (by simp [hp]); simp; omega
theorem arrK {P : Program} {t : TypeId} {ds : List D} {m : Int} {C : Nat → Prop} (n : Nat) (e : TypeId) (sz : Nat) (h1 : P.underlying t = some (.array n e)) (h2 : (P.info? e).map (·.size) = some sz) (h3 : ds.length = n) (h4 : ∀ y ∈ ds, width y = sz)
    (h5 : 0 ≤ m) (h6 : m.toNat < n) (h : C m.toNat) : ArrK P t ds m C := ⟨n, e, sz, h1, h2, h3, h4, h5, h6, h⟩
theorem len3 {α : Type} {l : List α} (h : l.length = 3) : ∃ a b c, l = [a, b, c] := by
  match l, h with
  | [a, b, c], _ => exact ⟨a, b, c, rfl⟩
theorem hexC_safe : ∀ n, n < 16 → 33 ≤ (hexC n).toNat ∧ (hexC n).toNat ≤ 126 := by decide
theorem escS_safe {s : Str} {c : UInt8} (h : c ∈ escS s) : 33 ≤ c.toNat ∧ c.toNat ≤ 126 := by
  simp only [escS, List.mem_flatMap] at h
  obtain ⟨x, _, hx⟩ := h
  have hlt := x.toNat_lt
  unfold escB at hx
  split at hx
  · rename_i hp
    rw [List.mem_singleton] at hx
    subst hx
    simp only [plainB, decide_eq_true_eq] at hp
    omega
  · simp only [List.mem_cons, List.not_mem_nil, or_false] at hx
    rcases hx with rfl | rfl | rfl
    · decide
    · exact hexC_safe _ (by omega)
    · exact hexC_safe _ (by omega)
theorem escS_no10 (s : Str) : (10 : UInt8) ∉ escS s := fun h => by have := (escS_safe h).1; revert this; decide
theorem escS_no32 (s : Str) : (32 : UInt8) ∉ escS s := fun h => by have := (escS_safe h).1; revert this; decide
theorem ixB_mid {c : UInt8} {a b : Str} (h : c ∉ a) : ixB (a ++ c :: b) c = List.length a :=
  ixB_at (by simp) (by simp) (by simpa using h)
theorem splitB_mid {c : UInt8} {a b : Str} (h : c ∉ a) : splitB c (a ++ c :: b) = a :: splitB c b := by
  have e1 : List.take (List.length a) (a ++ c :: b) = a := by simp
  have e2 : List.drop (List.length a + 1) (a ++ c :: b) = b := by rw [← List.drop_drop]; simp
  rw [splitB_at (ixB_mid h), e1, e2]
/-- The pieces, joined. -/
def joinB (c : UInt8) : List Str → Str
  | [] => []
  | [p] => p
  | p :: q :: ps => p ++ c :: joinB c (q :: ps)
theorem joinB_split (c : UInt8) : ∀ (s : Str), joinB c (splitB c s) = s
  | [] => rfl
  | x :: s => by
    have ih := joinB_split c s
    simp only [splitB]
    cases hs : splitB c s with
    | nil => exact absurd hs (splitB_ne c s)
    | cons q qs =>
      rw [hs] at ih
      by_cases hx : x = c
      · rw [if_pos hx]
        simp only [joinB, List.nil_append, ih, hx]
      · rw [if_neg hx]
        cases qs with
        | nil => simp only [joinB] at ih ⊢; rw [ih]
        | cons r rs => simp only [joinB, List.cons_append] at ih ⊢; rw [ih]
theorem unescL_esc : ∀ {ps xs : List Str}, unescL ps = some xs → ps = xs.map escS
  | [], xs, h => by simp [unescL] at h; subst h; rfl
  | p :: ps, xs, h => by
    simp only [unescL] at h
    split at h
    · rename_i x hx
      obtain ⟨ys, hy, rfl⟩ := Option.map_eq_some_iff.1 h
      rw [unescL_esc hy, ← (unesc_dec _ _ _ (Nat.le_refl _) hx).2]
      rfl
    · cases h
/-- All of a list are so. -/
def AllB {α : Type} (p : α → Bool) (l : List α) : Prop := ∀ x ∈ l, p x = true
theorem AllB.nil {α : Type} {p : α → Bool} : AllB p [] := fun _ h => by simp at h
theorem AllB.snoc {α : Type} {p : α → Bool} {l m : List α} {x : α} (h : AllB p l) (hx : p x = true) (e : m = l ++ [x]) : AllB p m := fun y hy => by
  rw [e, List.mem_append, List.mem_singleton] at hy
  rcases hy with hy | rfl
  · exact h y hy
  · exact hx
theorem AllB.all {α : Type} {p : α → Bool} {l : List α} (h : AllB p l) : l.all p = true := List.all_eq_true.2 h
theorem all_no {α : Type} {p : α → Bool} {l : List α} {k : Nat} {x : α} {h : k < l.length} (e : l[k] = x) (hx : p x = false) : l.all p = false := by
  rw [List.all_eq_false]; exact ⟨x, by rw [← e]; exact List.getElem_mem h, by simp [hx]⟩
end Go.Proofs.Tz

/- Patch operations: what they are, and what they do: definitions and plain facts. -/
set_option linter.unusedVariables false
set_option linter.unusedSimpArgs false
namespace Go.Proofs.Tz
open Go.Vw Go.Lib

abbrev oAdd : Str := [97, 100, 100]
abbrev oRem : Str := [114, 101, 109, 111, 118, 101]
abbrev oRepl : Str := [114, 101, 112, 108, 97, 99, 101]
/-- An operation: its kind, its path, its values. -/
abbrev POp := Str × Str × List Str
def popD (x : POp) : D := .agg [.str x.1, .str x.2.1, strs x.2.2]
def pops (l : List POp) : D := .sl (l.map popD)
def FitP (l : List POp) : Prop := l.length < 1000000 ∧ ∀ x ∈ l, List.length x.1 < 1000000 ∧ List.length x.2.1 < 1000000 ∧ x.2.2.length < 1000000 ∧ ∀ v ∈ x.2.2, List.length v < 1000000

/-- A path: name, value, error. -/
def pathV (n v : Str) : Str × Str × Int := if v.getLast? = some 93 ∧ cleanB v.dropLast = true then (n, v.dropLast, 0) else ([], [], 4)
def pathP (s : Str) : Str × Str × Int :=
  if nameB (cutB s 91).1 = false then ([], [], 5) else if (cutB s 91).2.2 = false then ((cutB s 91).1, [], 0) else pathV (cutB s 91).1 (cutB s 91).2.1

def opB (o : Str) : Bool := decide (o = oAdd) || decide (o = oRem) || decide (o = oRepl)
def fitsP (o v : Str) (vs : List Str) : Bool := if o = oAdd then decide (v = []) && decide (vs ≠ []) else if o = oRem then decide (vs = []) else decide (v = []) || decide (vs.length = 1)
def chkW : List Str → List Str → Int
  | _, [] => 0
  | b, v :: l => if cleanB v = false then 8 else if v ∈ b then 7 else chkW (b ++ [v]) l
def valsP (vs : List Str) : Int := if 16 < vs.length then 3 else chkW [] vs
def chkOp (x : POp) : Int :=
  if opB x.1 = false then 2 else if (pathP x.2.1).2.2 ≠ 0 then (pathP x.2.1).2.2 else if fitsP x.1 (pathP x.2.1).2.1 x.2.2 = false then 4 else valsP x.2.2
def chkOps : List POp → Int
  | [] => 0
  | x :: l => if chkOp x = 0 then chkOps l else chkOp x
def checkP (l : List POp) : Int := if 32 < l.length then 3 else chkOps l

/-- The values that are not there. -/
def missL (old vs : List Str) : List Str := vs.filter fun v => !decide (v ∈ old)
def remL (old : List Str) (v : Str) : List Str := old.filter fun x => !decide (x = v)
/-- The values of an attribute after an operation; none: there is no such value. -/
def nowP (old : List Str) (o v : Str) (vs : List Str) : Option (List Str) :=
  if o = oAdd then some (old ++ missL old vs)
  else if o = oRem then (if v = [] then some [] else some (remL old v))
  else if v = [] then some vs
  else if v ∈ old then some (remL old v ++ missL (remL old v) vs)
  else none
/-- The attribute that an operation is about, and its part. -/
def nameP (x : POp) : Str := lower (pathP x.2.1).1
def partP (x : POp) : Str := (pathP x.2.1).2.1
def stepP (out : List Att) (x : POp) : List Att × Int := match nowP (getL out (nameP x)) x.1 (partP x) x.2.2 with
  | none => ([], 6)
  | some now => if 16 < now.length ∨ 32 < (setL (sortedL out) (nameP x) now).length then ([], 3) else (setL (sortedL out) (nameP x) now, 0)
def goP : List Att → List POp → List Att × Int
  | out, [] => (out, 0)
  | out, x :: l => if (stepP out x).2 = 0 then goP (stepP out x).1 l else stepP out x
def applyP (a : List Att) (l : List POp) : List Att × Int :=
  if checkL a = 0 then (if checkP l = 0 then goP (sortedL a) l else ([], checkP l)) else ([], checkL a)

/-! ### checks -/
theorem chkW_zero : ∀ (l b : List Str), chkW b l = 0 ↔ (∀ v ∈ l, cleanB v = true ∧ v ∉ b) ∧ l.Nodup
  | [], b => by simp [chkW]
  | v :: l, b => by
    rw [chkW]
    by_cases h1 : cleanB v = false
    · simp [h1]
    · by_cases h2 : v ∈ b
      · simp [h1, h2]
      · rw [if_neg h1, if_neg h2, chkW_zero l (b ++ [v]), List.nodup_cons]
        have h1' : cleanB v = true := by simpa using h1
        constructor
        · rintro ⟨h3, h4⟩
          refine ⟨fun x hx => ?_, fun hv => ?_, h4⟩
          · rcases List.mem_cons.1 hx with rfl | hx
            · exact ⟨h1', h2⟩
            · have := h3 x hx
              exact ⟨this.1, fun hb => this.2 (by simp [hb])⟩
          · exact (h3 v hv).2 (by simp)
        · rintro ⟨h3, h4, h5⟩
          refine ⟨fun x hx => ⟨(h3 x (by simp [hx])).1, fun hb => ?_⟩, h5⟩
          rcases List.mem_append.1 hb with hb | hb
          · exact (h3 x (by simp [hx])).2 hb
          · rw [List.mem_singleton] at hb
            subst hb
            exact h4 hx
theorem valsP_zero (vs : List Str) : valsP vs = 0 ↔ vs.length ≤ 16 ∧ (∀ v ∈ vs, cleanB v = true) ∧ vs.Nodup := by
  unfold valsP
  by_cases h : 16 < vs.length
  · rw [if_pos h]
    constructor
    · intro h; simp at h
    · rintro ⟨h1, _⟩; omega
  · rw [if_neg h, chkW_zero]
    simp only [List.not_mem_nil, not_false_eq_true, and_true]
    constructor
    · rintro ⟨h1, h2⟩; exact ⟨by omega, h1, h2⟩
    · rintro ⟨_, h1, h2⟩; exact ⟨h1, h2⟩

/-- What is known of an operation that Check accepts. -/
structure OkOp (x : POp) : Prop where
  op : opB x.1 = true
  path : (pathP x.2.1).2.2 = 0
  fit : fitsP x.1 (partP x) x.2.2 = true
  len : x.2.2.length ≤ 16
  clean : ∀ v ∈ x.2.2, cleanB v = true
  nod : x.2.2.Nodup
theorem chkOp_zero (x : POp) : chkOp x = 0 ↔ OkOp x := by
  unfold chkOp
  by_cases h1 : opB x.1 = false
  · rw [if_pos h1]
    exact ⟨fun h => by simp at h, fun h => by have := h.op; rw [h1] at this; cases this⟩
  rw [if_neg h1]
  by_cases h2 : (pathP x.2.1).2.2 = 0
  · rw [if_neg (by simpa using h2)]
    by_cases h3 : fitsP x.1 (pathP x.2.1).2.1 x.2.2 = false
    · rw [if_pos h3]
      exact ⟨fun h => by simp at h, fun h => by have := h.fit; rw [partP, h3] at this; cases this⟩
    · rw [if_neg h3, valsP_zero]
      exact ⟨fun ⟨a, b, c⟩ => ⟨by simpa using h1, h2, by simpa [partP] using h3, a, b, c⟩, fun h => ⟨h.len, h.clean, h.nod⟩⟩
  · rw [if_pos (by simpa using h2)]
    exact ⟨fun h => absurd h h2, fun h => absurd h.path h2⟩
theorem chkOps_zero : ∀ (l : List POp), chkOps l = 0 ↔ ∀ x ∈ l, OkOp x
  | [] => by simp [chkOps]
  | x :: l => by
    rw [chkOps]
    by_cases h : chkOp x = 0
    · rw [if_pos h, chkOps_zero l]
      simp [(chkOp_zero x).1 h]
    · rw [if_neg h]
      exact ⟨fun h' => absurd h' h, fun h' => absurd ((chkOp_zero x).2 (h' x (by simp))) h⟩
theorem checkP_zero (l : List POp) : checkP l = 0 ↔ l.length ≤ 32 ∧ ∀ x ∈ l, OkOp x := by
  unfold checkP
  by_cases h : 32 < l.length
  · rw [if_pos h]
    exact ⟨fun h => by simp at h, fun h' => by omega⟩
  · rw [if_neg h, chkOps_zero]
    exact ⟨fun h' => ⟨by omega, h'⟩, fun h' => h'.2⟩
theorem chkOps_app : ∀ (a b : List POp), chkOps (a ++ b) = if chkOps a = 0 then chkOps b else chkOps a
  | [], b => by simp [chkOps]
  | r :: a, b => by
    simp only [List.cons_append, chkOps, chkOps_app a b]
    by_cases h : chkOp r = 0 <;> simp [h]

/-! ### paths -/
theorem pathP_name {s : Str} (h : (pathP s).2.2 = 0) : nameB (pathP s).1 = true := by
  unfold pathP at h ⊢
  split at h
  · simp at h
  · rename_i hn
    have hn' : nameB (cutB s 91).1 = true := by simpa using hn
    rw [if_neg hn]
    split at h
    · rename_i hb; rw [if_pos hb]; exact hn'
    · rename_i hb
      rw [if_neg hb]
      unfold pathV at h ⊢
      split at h
      · rename_i hc; rw [if_pos hc]; exact hn'
      · simp at h
theorem nameC_no91 {c : UInt8} (h : nameC c = true) : c ≠ 91 := by
  rintro rfl; revert h; decide
theorem path_plain {n : Str} (h : nameB n = true) : pathP n = (n, [], 0) := by
  have h2 : (91 : UInt8) ∉ n := fun hm => by
    simp only [nameB, Bool.and_eq_true, List.all_eq_true] at h
    exact nameC_no91 (h.2 91 hm) rfl
  have h3 : cutB n 91 = (n, [], false) := by rw [cutB, if_neg (by rw [ixB_no h2]; omega)]
  simp [pathP, h3, h]
theorem nameP_low (x : POp) : lower (nameP x) = nameP x := lower_lower _
theorem nameP_name {x : POp} (h : OkOp x) : nameB (nameP x) = true := by rw [nameP, nameB_low]; exact pathP_name h.path

/-! ### one step -/
theorem has_set (out : List Att) (x : POp) (now : List Str) (n v : Str) : HasL (setL (sortedL out) (nameP x) now) n v ↔ (n ≠ nameP x ∧ HasL out n v) ∨ (n = nameP x ∧ v ∈ now) := by
  rw [hasL_set, nameP_low]
theorem mem_missL {old vs : List Str} {v : Str} : v ∈ missL old vs ↔ v ∈ vs ∧ v ∉ old := by simp [missL]
theorem mem_remL {old : List Str} {v x : Str} : x ∈ remL old v ↔ x ∈ old ∧ x ≠ v := by simp [remL]
theorem nodup_miss {old vs : List Str} (h1 : old.Nodup) (h2 : vs.Nodup) : (old ++ missL old vs).Nodup := by
  rw [List.nodup_append]
  refine ⟨h1, h2.sublist List.filter_sublist, fun x hx y hy e => ?_⟩
  subst e
  exact (mem_missL.1 hy).2 hx
theorem nodup_rem {old : List Str} (v : Str) (h1 : old.Nodup) : (remL old v).Nodup := h1.sublist List.filter_sublist
theorem now_nodup {old : List Str} {o v : Str} {vs now : List Str} (h1 : old.Nodup) (h2 : vs.Nodup) (h : nowP old o v vs = some now) : now.Nodup := by
  unfold nowP at h
  split at h
  · simp only [Option.some.injEq] at h; subst h; exact nodup_miss h1 h2
  split at h
  · split at h
    · simp only [Option.some.injEq] at h; subst h; exact List.nodup_nil
    · simp only [Option.some.injEq] at h; subst h; exact nodup_rem v h1
  split at h
  · simp only [Option.some.injEq] at h; subst h; exact h2
  split at h
  · simp only [Option.some.injEq] at h; subst h; exact nodup_miss (nodup_rem v h1) h2
  · cases h
theorem now_sub {old : List Str} {o v : Str} {vs now : List Str} (h : nowP old o v vs = some now) : ∀ x ∈ now, x ∈ old ∨ x ∈ vs := by
  intro x hx
  unfold nowP at h
  split at h
  · simp only [Option.some.injEq] at h; subst h
    rcases List.mem_append.1 hx with hx | hx
    · exact .inl hx
    · exact .inr (mem_missL.1 hx).1
  split at h
  · split at h
    · simp only [Option.some.injEq] at h; subst h; simp at hx
    · simp only [Option.some.injEq] at h; subst h; exact .inl (mem_remL.1 hx).1
  split at h
  · simp only [Option.some.injEq] at h; subst h; exact .inr hx
  split at h
  · simp only [Option.some.injEq] at h; subst h
    rcases List.mem_append.1 hx with hx | hx
    · exact .inl (mem_remL.1 hx).1
    · exact .inr (mem_missL.1 hx).1
  · cases h
theorem setL_norm (l : List Att) (n : Str) (w : List Str) : sortedL (setL l n w) = setL l n w := sorted_idem _
theorem step_ok {out r : List Att} {x : POp} (h : stepP out x = (r, 0)) : ∃ now, nowP (getL out (nameP x)) x.1 (partP x) x.2.2 = some now ∧ now.length ≤ 16 ∧ (setL (sortedL out) (nameP x) now).length ≤ 32 ∧ r = setL (sortedL out) (nameP x) now := by
  unfold stepP at h
  split at h
  · simp at h
  · rename_i now hn
    split at h
    · simp at h
    · simp only [Prod.mk.injEq, and_true] at h
      exact ⟨now, hn, by omega, by omega, h.symm⟩
theorem step_of {out : List Att} {x : POp} {now : List Str} (h1 : nowP (getL out (nameP x)) x.1 (partP x) x.2.2 = some now) (h2 : now.length ≤ 16) (h3 : (setL (sortedL out) (nameP x) now).length ≤ 32) : stepP out x = (setL (sortedL out) (nameP x) now, 0) := by
  rw [stepP, h1]
  simp only
  rw [if_neg (by omega)]
theorem step_err {out : List Att} {x : POp} (h : (stepP out x).2 ≠ 0) : (stepP out x).1 = [] := by
  unfold stepP at h ⊢
  split
  · rfl
  · rename_i now hn
    rw [hn] at h
    simp only at h
    split
    · rfl
    · rename_i hc; rw [if_neg hc] at h; exact absurd rfl h

theorem step_valid {out r : List Att} {x : POp} (hv : Valid out) (hx : OkOp x) (h : stepP out x = (r, 0)) : Valid r ∧ sortedL r = r := by
  obtain ⟨now, h1, h2, h3, rfl⟩ := step_ok h
  refine ⟨hv.set (nameP_name hx) (fun v hm => ?_) h3 ?_, setL_norm _ _ _⟩
  · rcases now_sub h1 v hm with hm | hm
    · exact (hv.has ((mem_getL _ _ _).1 hm)).2
    · exact hx.clean v hm
  · rw [getL_set_len out (nameP x) (now_nodup (SS_getL _ _).nodup hx.nod h1)]
    exact h2

theorem goP_app : ∀ (l m : List POp) (out : List Att), goP out (l ++ m) = if (goP out l).2 = 0 then goP (goP out l).1 m else goP out l
  | [], m, out => by simp [goP]
  | x :: l, m, out => by
    rw [List.cons_append, goP, goP]
    by_cases h : (stepP out x).2 = 0
    · rw [if_pos h, if_pos h]; exact goP_app l m _
    · rw [if_neg h, if_neg h, if_neg h]
theorem goP_err : ∀ (l : List POp) (out : List Att), (goP out l).2 ≠ 0 → (goP out l).1 = []
  | [], out, h => absurd rfl h
  | x :: l, out, h => by
    rw [goP] at h ⊢
    split
    · rename_i hc; rw [if_pos hc] at h; exact goP_err l _ h
    · rename_i hc; exact step_err hc
theorem goP_valid : ∀ (l : List POp) (out r : List Att), Valid out → sortedL out = out → (∀ x ∈ l, OkOp x) → goP out l = (r, 0) → Valid r ∧ sortedL r = r
  | [], out, r, hv, hs, _, h => by
    simp only [goP, Prod.mk.injEq, and_true] at h
    subst h
    exact ⟨hv, hs⟩
  | x :: l, out, r, hv, hs, hx, h => by
    rw [goP] at h
    split at h
    · rename_i hc
      have h1 : stepP out x = ((stepP out x).1, 0) := by rw [← hc]
      obtain ⟨h2, h3⟩ := step_valid hv (hx x (by simp)) h1
      exact goP_valid l _ r h2 h3 (fun y hy => hx y (by simp [hy])) h
    · rename_i hc
      rw [h] at hc
      exact absurd rfl hc
theorem applyP_err {a : List Att} {l : List POp} (h : (applyP a l).2 ≠ 0) : (applyP a l).1 = [] := by
  unfold applyP at h ⊢
  split
  · rename_i h1
    rw [if_pos h1] at h
    split
    · rename_i h2; rw [if_pos h2] at h; exact goP_err _ _ h
    · rfl
  · rfl
theorem applyP_ok {a : List Att} {l : List POp} (h : (applyP a l).2 = 0) : Valid a ∧ checkP l = 0 ∧ goP (sortedL a) l = ((applyP a l).1, 0) := by
  unfold applyP at h ⊢
  split at h
  · rename_i h1
    rw [if_pos h1]
    split at h
    · rename_i h2
      rw [if_pos h2]
      exact ⟨(check_iff a).1 h1, h2, by rw [← h]⟩
    · rename_i h2; exact absurd h h2
  · rename_i h1; exact absurd h h1
theorem applyP_valid {a : List Att} {l : List POp} (h : (applyP a l).2 = 0) : Valid (applyP a l).1 ∧ sortedL (applyP a l).1 = (applyP a l).1 := by
  obtain ⟨h1, h2, h3⟩ := applyP_ok h
  exact goP_valid l _ _ h1.sorted (sorted_idem a) ((checkP_zero l).1 h2).2 h3

/-! ### chains -/
theorem checkP_app {l m : List POp} (h : l.length + m.length ≤ 32) : checkP (l ++ m) = if checkP l = 0 then checkP m else checkP l := by
  unfold checkP
  rw [if_neg (show ¬ 32 < (l ++ m).length by simp; omega), if_neg (show ¬ 32 < l.length by omega), if_neg (show ¬ 32 < m.length by omega), chkOps_app]
theorem chain_ok {a : List Att} {l m : List POp} (hlen : l.length + m.length ≤ 32) (h : (applyP a l).2 = 0) : applyP a (l ++ m) = applyP (applyP a l).1 m := by
  obtain ⟨h1, h2, h3⟩ := applyP_ok h
  obtain ⟨v1, v2⟩ := applyP_valid h
  have e1 : checkL a = 0 := (check_iff a).2 h1
  have e2 : checkL (applyP a l).1 = 0 := (check_iff _).2 v1
  have e3 : checkP (l ++ m) = checkP m := by rw [checkP_app hlen, if_pos h2]
  generalize hb : (applyP a l).1 = b at *
  rw [applyP, applyP, if_pos e1, if_pos e2, e3]
  split
  · rw [goP_app, h3, if_pos rfl, v2]
  · rfl
theorem chain_err {a : List Att} {l m : List POp} (hlen : l.length + m.length ≤ 32) (h : (applyP a l).2 ≠ 0) : (applyP a (l ++ m)).2 ≠ 0 := by
  unfold applyP at h ⊢
  split at h
  · rename_i h1
    rw [if_pos h1, checkP_app hlen]
    split at h
    · rename_i h2
      rw [if_pos h2]
      split
      · rw [goP_app, if_neg h]; exact h
      · rename_i h3; exact h3
    · rename_i h2
      rw [if_neg h2, if_neg h2]
      exact h2
  · rename_i h1
    rw [if_neg h1]; exact h1
end Go.Proofs.Tz

/- Patch operations: their text, and what a text says: plain laws. -/
set_option linter.unusedVariables false
set_option linter.unusedSimpArgs false
namespace Go.Proofs.Tz
open Go.Vw Go.Lib

def wordsO (vs : List Str) : Str := vs.flatMap fun v => 32 :: escS v
def line0P (x : POp) : Str := x.1 ++ 32 :: (escS x.2.1 ++ wordsO x.2.2)
def lineSP (x : POp) : Str := line0P x ++ [10]
def linesP (l : List POp) : Str := l.flatMap lineSP
def textP (l : List POp) : Str × Int := if checkP l = 0 then (if 4096 < (linesP l).length then ([], 3) else (linesP l, 0)) else ([], checkP l)
/-- An operation of its words. -/
def opOf (o : Str) : Option (List Str) → Option POp
  | some (p :: vs) => some (o, p, vs)
  | _ => none
def readW : List Str → Option POp
  | o :: ps => opOf o (unescL ps)
  | [] => none
def readP (s : Str) : Option POp := readW (splitB 32 s)

def parseGoP (s : Str) (out : List POp) : List POp × Int × Int :=
  if s = [] then (out, 0, 0)
  else if h : 0 ≤ ixB s 10 then (match readP (s.take (ixB s 10).toNat) with
    | none => ([], (out.length : Int) + 1, 4)
    | some r => if checkP (out ++ [r]) = 0 then parseGoP (s.drop ((ixB s 10).toNat + 1)) (out ++ [r]) else ([], (out.length : Int) + 1, checkP (out ++ [r])))
  else ([], (out.length : Int) + 1, 4)
  termination_by s.length
  decreasing_by
    have := ixB_lt h
    simp
    omega
def parseP (s : Str) : List POp × Int × Int := if 4096 < s.length then ([], 0, 3) else parseGoP s []

theorem parseGoP_nil (out : List POp) : parseGoP [] out = (out, 0, 0) := by rw [parseGoP.eq_def]; rfl
theorem parseGoP_no {s : Str} (out : List POp) (h1 : s ≠ []) (h2 : ixB s 10 < 0) : parseGoP s out = ([], (out.length : Int) + 1, 4) := by
  rw [parseGoP.eq_def, if_neg h1, dif_neg (by omega)]
theorem parseGoP_at {s : Str} (out : List POp) {k : Nat} (h2 : ixB s 10 = k) : parseGoP s out = match readP (s.take k) with
    | none => ([], (out.length : Int) + 1, 4)
    | some r => if checkP (out ++ [r]) = 0 then parseGoP (s.drop (k + 1)) (out ++ [r]) else ([], (out.length : Int) + 1, checkP (out ++ [r])) := by
  have h1 : s ≠ [] := fun e => by subst e; simp [ixB, Go.Lib.indexByte] at h2
  rw [parseGoP.eq_def, if_neg h1, dif_pos (by omega), h2]
  rfl

theorem unescL_map : ∀ (xs : List Str), unescL (xs.map escS) = some xs
  | [] => rfl
  | x :: xs => by simp [unescL, unesc_esc, unescL_map xs]
theorem split_words : ∀ (vs : List Str) (p : Str), splitB 32 (escS p ++ wordsO vs) = escS p :: vs.map escS
  | [], p => by simp [wordsO, splitB_none (escS_no32 p)]
  | v :: vs, p => by
    have e : escS p ++ wordsO (v :: vs) = escS p ++ 32 :: (escS v ++ wordsO vs) := by simp [wordsO]
    rw [e, splitB_mid (escS_no32 p), split_words vs v]
    rfl
theorem join_words : ∀ (vs : List Str) (p : Str), joinB 32 (escS p :: vs.map escS) = escS p ++ wordsO vs
  | [], p => by simp [joinB, wordsO]
  | v :: vs, p => by
    have := join_words vs v
    simp only [List.map_cons] at this ⊢
    rw [joinB, this]
    simp [wordsO]
theorem opB_cases {o : Str} (h : opB o = true) : o = oAdd ∨ o = oRem ∨ o = oRepl := by
  simp only [opB, Bool.or_eq_true, decide_eq_true_eq] at h
  rcases h with (h | h) | h
  · exact .inl h
  · exact .inr (.inl h)
  · exact .inr (.inr h)
theorem op_no32 {o : Str} (h : opB o = true) : (32 : UInt8) ∉ o := by
  rcases opB_cases h with rfl | rfl | rfl <;> decide
theorem op_no10 {o : Str} (h : opB o = true) : (10 : UInt8) ∉ o := by
  rcases opB_cases h with rfl | rfl | rfl <;> decide
theorem line0P_no10 {x : POp} (h : opB x.1 = true) : (10 : UInt8) ∉ line0P x := by
  simp only [line0P, List.mem_append, List.mem_cons, not_or]
  refine ⟨op_no10 h, by decide, escS_no10 _, fun hm => ?_⟩
  simp only [wordsO, List.mem_flatMap, List.mem_cons] at hm
  obtain ⟨v, _, h1 | h1⟩ := hm
  · revert h1; decide
  · exact escS_no10 v h1
theorem readP_line0 {x : POp} (h : opB x.1 = true) : readP (line0P x) = some x := by
  rw [readP, line0P, splitB_mid (op_no32 h), split_words, readW]
  have : unescL (escS x.2.1 :: x.2.2.map escS) = some (x.2.1 :: x.2.2) := unescL_map (x.2.1 :: x.2.2)
  rw [this]
  rfl
theorem readP_inv {s : Str} {x : POp} (h : readP s = some x) : s = line0P x := by
  have h2 := joinB_split 32 s
  unfold readP at h
  cases hs : splitB 32 s with
  | nil => exact absurd hs (splitB_ne _ _)
  | cons o ps =>
    rw [hs] at h h2
    simp only [readW] at h
    cases hu : unescL ps with
    | none => rw [hu] at h; cases h
    | some l =>
      rw [hu] at h
      cases l with
      | nil => cases h
      | cons p vs =>
        simp only [opOf, Option.some.injEq] at h
        subst h
        have := unescL_esc hu
        rw [this, List.map_cons] at h2
        rw [← h2, joinB, ← List.map_cons, List.map_cons, join_words]
        rfl

theorem linesP_cons (r : POp) (m : List POp) : linesP (r :: m) = line0P r ++ 10 :: linesP m := by simp [linesP, lineSP]
theorem checkP_left {a b : List POp} (h : checkP (a ++ b) = 0) : checkP a = 0 := by
  rw [checkP_zero] at h ⊢
  exact ⟨by have := h.1; simp at this; omega, fun x hx => h.2 x (by simp [hx])⟩
theorem parseP_lines : ∀ (m out : List POp), checkP (out ++ m) = 0 → parseGoP (linesP m) out = (out ++ m, 0, 0)
  | [], out, _ => by simp [linesP, parseGoP_nil]
  | r :: m, out, h => by
    have hr : opB r.1 = true := (((checkP_zero _).1 h).2 r (by simp)).op
    rw [linesP_cons, parseGoP_at out (ixB_mid (line0P_no10 hr))]
    have e1 : List.take (List.length (line0P r)) (line0P r ++ 10 :: linesP m) = line0P r := by simp
    have e2 : List.drop (List.length (line0P r) + 1) (line0P r ++ 10 :: linesP m) = linesP m := by
      rw [← List.drop_drop]; simp
    have h1 : checkP (out ++ [r]) = 0 := checkP_left (b := m) (by simpa using h)
    rw [e1, e2, readP_line0 hr]
    simp only [h1, if_true]
    rw [parseP_lines m (out ++ [r]) (by simpa using h)]
    simp

theorem parseGoP_ok : ∀ (n : Nat) (s : Str) (out x : List POp) (k : Int), s.length ≤ n → parseGoP s out = (x, k, 0) → ∃ m, x = out ++ m ∧ k = 0 ∧ s = linesP m ∧ (m ≠ [] → checkP x = 0) := by
  intro n
  induction n with
  | zero =>
    intro s out x k hn h
    have : s = [] := List.length_eq_zero_iff.1 (by omega)
    subst this
    rw [parseGoP_nil] at h
    simp only [Prod.mk.injEq] at h
    exact ⟨[], by simp [h.1], h.2.1.symm, by simp [linesP], by simp⟩
  | succ n ih =>
    intro s out x k hn h
    by_cases hs : s = []
    · subst hs
      rw [parseGoP_nil] at h
      simp only [Prod.mk.injEq] at h
      exact ⟨[], by simp [h.1], h.2.1.symm, by simp [linesP], by simp⟩
    by_cases hix : 0 ≤ ixB s 10
    · obtain ⟨j, hj⟩ := Int.eq_ofNat_of_zero_le hix
      have hlt := ixB_lt hix
      rw [hj, Int.toNat_natCast] at hlt
      have hj' : ixB s 10 = (j : Int) := hj
      rw [parseGoP_at out hj'] at h
      cases hl : readP (s.take j) with
      | none => rw [hl] at h; simp at h
      | some r =>
        rw [hl] at h
        simp only at h
        split at h
        · rename_i hc
          obtain ⟨m, h1, h2, h3, h4⟩ := ih (s.drop (j + 1)) (out ++ [r]) x k (by simp; omega) h
          have hsplit : s = s.take j ++ 10 :: s.drop (j + 1) := by
            have a := joinB_split 10 s
            rw [splitB_at hj'] at a
            have b := joinB_split 10 (s.drop (j + 1))
            cases hq : splitB 10 (s.drop (j + 1)) with
            | nil => exact absurd hq (splitB_ne _ _)
            | cons q qs =>
              rw [hq] at a b
              simp only [joinB] at a
              rw [b] at a
              exact a.symm
          refine ⟨r :: m, by rw [h1]; simp, h2, ?_, fun _ => ?_⟩
          · rw [linesP_cons, ← h3, ← readP_inv hl]; exact hsplit
          · by_cases hm : m = []
            · subst hm; rw [h1]; simpa using hc
            · exact h4 hm
        · rename_i hc
          simp only [Prod.mk.injEq] at h
          exact absurd h.2.2 hc
    · rw [parseGoP_no out hs (by omega)] at h
      simp at h
theorem parseGoP_err : ∀ (n : Nat) (s : Str) (out : List POp), s.length ≤ n → (parseGoP s out).2.2 ≠ 0 → (parseGoP s out).1 = [] := by
  intro n
  induction n with
  | zero =>
    intro s out hn h
    have : s = [] := List.length_eq_zero_iff.1 (by omega)
    subst this
    rw [parseGoP_nil] at h
    exact absurd rfl h
  | succ n ih =>
    intro s out hn h
    by_cases hs : s = []
    · subst hs
      rw [parseGoP_nil] at h
      exact absurd rfl h
    by_cases hix : 0 ≤ ixB s 10
    · obtain ⟨j, hj⟩ := Int.eq_ofNat_of_zero_le hix
      have hlt := ixB_lt hix
      rw [hj, Int.toNat_natCast] at hlt
      have hj' : ixB s 10 = (j : Int) := hj
      rw [parseGoP_at out hj'] at h ⊢
      cases hl : readP (s.take j) with
      | none => rfl
      | some r =>
        rw [hl] at h
        simp only at h ⊢
        split at h
        · rename_i hc
          rw [if_pos hc]
          exact ih _ _ (by simp; omega) h
        · rename_i hc
          rw [if_neg hc]
    · rw [parseGoP_no out hs (by omega)]

theorem backP1 {l : List POp} {t : Str} (h : textP l = (t, 0)) : parseP t = (l, 0, 0) := by
  unfold textP at h
  split at h
  · rename_i hc
    split at h
    · simp at h
    · rename_i h4
      simp only [Prod.mk.injEq, and_true] at h
      subst h
      rw [parseP, if_neg h4, parseP_lines l [] (by simpa using hc)]
      simp
  · rename_i hc
    simp only [Prod.mk.injEq] at h
    exact absurd h.2 hc
theorem backP2 {s : Str} {x : List POp} {k : Int} (h : parseP s = (x, k, 0)) : textP x = (s, 0) ∧ k = 0 := by
  unfold parseP at h
  split at h
  · simp at h
  · rename_i h4
    obtain ⟨m, h1, h2, h3, h5⟩ := parseGoP_ok _ _ _ _ _ (Nat.le_refl _) h
    simp only [List.nil_append] at h1
    subst h1
    have hc : checkP x = 0 := by
      by_cases hm : x = []
      · subst hm; rfl
      · exact h5 hm
    exact ⟨by rw [textP, if_pos hc, ← h3, if_neg h4], h2⟩
theorem backP3 {s : Str} (h : (parseP s).2.2 ≠ 0) : (parseP s).1 = [] := by
  unfold parseP at h ⊢
  split at h
  · rename_i h4; rw [if_pos h4]
  · rename_i h4; rw [if_neg h4]; exact parseGoP_err _ _ _ (Nat.le_refl _) h
end Go.Proofs.Tz

/- Patch operations: Path and Check, in both. -/
set_option maxRecDepth 100000
set_option maxHeartbeats 4000000
set_option linter.unusedVariables false
set_option linter.unusedSimpArgs false
namespace Go.Proofs.Tz
open Go.Vw Go.RowKit Go.Proofs

/-- strings.CutSuffix at one byte. -/
def cutEnd (s : Str) (c : UInt8) : Str × Bool := if s.getLast? = some c then (s.dropLast, true) else (s, false)

theorem hasSuffix_fn (s : Str) (c : UInt8) (hl : List.length s < 1000000) : Ctr Tryz.prog 114 [.d (.str s), .d (.str [c])] (.d (.bool (decide (s.getLast? = some c)))) := by
  refine fn_of_vwp (fun _ => false) (by kernel_rfl) Tryz.func114 (by kernel_rfl) rfl rfl (Nat.le_of_ble_eq_true rfl) (by kernel_rfl) rfl rfl ?_
  by_cases h0 : s = []
  · subst h0
    simp -implicitDefEqProofs
  · have h1 : 1 ≤ List.length s := List.length_pos_iff.2 h0
    have h1' : (1 : Int) ≤ List.length s := by omega
    have i1 : (0 : Int) ≤ (List.length s : Int) - 1 := by omega
    have j1 : ((List.length s : Int) - 1).toNat = List.length s - 1 := by omega
    obtain ⟨t, x, rfl⟩ : ∃ t x, s = t ++ [x] := ⟨s.dropLast, s.getLast h0, (List.dropLast_concat_getLast h0).symm⟩
    have h2' : (1 : Int) ≤ (List.length t : Int) + 1 := by omega
    simp -implicitDefEqProofs [h1, h1', h2', i1, j1]
    simp at hl
    omega

theorem cutSuffixL_fn (s : Str) (c : UInt8) (hl : List.length s < 1000000) : Ctr Tryz.prog 87 [.d (.str s), .d (.str [c])] (.tup [.d (.str (cutEnd s c).1), .d (.bool (cutEnd s c).2)]) := by
  refine fn_of_vwpN (rv := .tmp 4) (rs := [.tmp 5]) (r := .d (.str (cutEnd s c).1)) (ys := [.d (.bool (cutEnd s c).2)]) (fun _ => false) (by kernel_rfl) Tryz.func87 (by kernel_rfl) rfl rfl (by simp) (Nat.le_of_ble_eq_true rfl) (by kernel_rfl) rfl rfl ?_
  have hS := hasSuffix_fn s c hl
  by_cases h : s.getLast? = some c
  · have h0 : s ≠ [] := by rintro rfl; simp at h
    have h1 : 1 ≤ List.length s := List.length_pos_iff.2 h0
    have i1 : (0 : Int) ≤ (List.length s : Int) - 1 := by omega
    have j1 : ((List.length s : Int) - 1).toNat = List.length s - 1 := by omega
    have e : cutEnd s c = (s.take (List.length s - 1), true) := by rw [cutEnd, if_pos h, List.dropLast_eq_take]
    rw [e]
    rw [decide_eq_true h] at hS
    have h1' : (1 : Int) ≤ List.length s := by omega
    simp -implicitDefEqProofs
    refine callK hS ?_
    simp -implicitDefEqProofs [i1, j1, h1']
    omega
  · have e : cutEnd s c = (s, false) := by rw [cutEnd, if_neg h]
    rw [e]
    rw [decide_eq_false h] at hS
    simp -implicitDefEqProofs
    refine callK hS ?_
    simp -implicitDefEqProofs

theorem cutSuffix_fn (s : Str) (c : UInt8) (hl : List.length s < 1000000) : Ctr Tryz.prog 38 [.d (.str s), .d (.str [c])] (.tup [.d (.str (cutEnd s c).1), .d (.bool (cutEnd s c).2)]) := by
  refine fn_of_vwpN (rv := .tmp 4) (rs := [.tmp 5]) (r := .d (.str (cutEnd s c).1)) (ys := [.d (.bool (cutEnd s c).2)]) (fun _ => false) (by kernel_rfl) Tryz.func38 (by kernel_rfl) rfl rfl (by simp) (Nat.le_of_ble_eq_true rfl) (by kernel_rfl) rfl rfl ?_
  simp -implicitDefEqProofs
  refine callK (cutSuffixL_fn s c hl) ?_
  simp -implicitDefEqProofs

theorem first_fn (s : Str) (c : UInt8) (hs : List.length s < 1000000) : Ctr Tryz.prog 40 [.d (.str s), .d (.int .u8 c.toNat)] (.d (.int .i64 (ixB s c))) := by
  refine fn_of_vwp (fun _ => false) (by kernel_rfl) Tryz.func40 (by kernel_rfl) rfl rfl (Nat.le_of_ble_eq_true rfl) (by kernel_rfl) rfl rfl ?_
  simp -implicitDefEqProofs
  refine loopN (List.length s) (fun k τ => τ 0 = .d (.str s) ∧ τ 1 = .d (.int .u8 c.toNat) ∧ τ 5 = .d (.int .i64 k) ∧ c ∉ s.take k) (by simp) ?_
  rintro k τ hk ⟨h0, h1, h5, hn⟩
  by_cases hlt : k < List.length s
  · by_cases he : s[k] = c
    · have hix := ixB_at hlt he hn
      simp -implicitDefEqProofs [h0, h1, h5, hlt, he, hix]
    · have he' : ¬ ((s[k].toNat : Int) = c.toNat) := fun e => he (UInt8.toNat_inj.1 (by omega))
      simp -implicitDefEqProofs [h0, h1, h5, hlt, he']
      repeat refine And.intro (by omega) ?_
      refine again hlt ⟨by simp [h0], by simp [h1], by simp, ?_⟩
      rw [take_s hlt, List.mem_append, List.mem_singleton]
      rintro (h | h)
      · exact hn h
      · exact he h.symm
  · rw [List.take_of_length_le (by omega)] at hn
    have hix := ixB_no hn
    simp -implicitDefEqProofs [h0, h1, h5, hlt, hix]

theorem pathV_eq (n v : Str) : pathV n v = if (cutEnd v 93).2 = true ∧ cleanB (cutEnd v 93).1 = true then (n, (cutEnd v 93).1, 0) else ([], [], 4) := by
  unfold pathV cutEnd
  by_cases h : v.getLast? = some 93 <;> simp [h]

theorem path_fn (s : Str) (hs : List.length s < 1000000) : Ctr Tryz.prog 12 [.d (.str s)] (.tup [.d (.str (pathP s).1), .d (.str (pathP s).2.1), .d (.int .i64 (pathP s).2.2)]) := by
  refine fn_of_vwpN (rv := .tmp 2) (rs := [.tmp 3, .tmp 4]) (r := .d (.str (pathP s).1)) (ys := [.d (.str (pathP s).2.1), .d (.int .i64 (pathP s).2.2)]) (fun _ => false) (by kernel_rfl) Tryz.func12 (by kernel_rfl) rfl rfl (by simp) (Nat.le_of_ble_eq_true rfl) (by kernel_rfl) rfl rfl ?_
  obtain ⟨R, hR⟩ : ∃ R, pathP s = R := ⟨_, rfl⟩
  rw [hR]
  have hcut := cut_fn s 91 (by omega)
  have hl1 : List.length (cutB s 91).1 < 1000000 ∧ List.length (cutB s 91).2.1 < 1000000 := by
    unfold cutB
    split
    · simp; omega
    · simp; omega
  unfold pathP at hR
  generalize cutB s 91 = c at *
  obtain ⟨n, v, b⟩ := c
  simp only at hcut hl1 hR
  have hce := cutSuffix_fn v 93 hl1.2
  have hle : List.length (cutEnd v 93).1 < 1000000 := by
    unfold cutEnd
    split
    · simp; omega
    · exact hl1.2
  by_cases h1 : nameB n = true
  case neg =>
    have h1' : nameB n = false := by simpa using h1
    rw [if_pos h1'] at hR
    subst hR
    simp -implicitDefEqProofs
    refine callK hcut ?_
    simp -implicitDefEqProofs
    refine callK (fname_fn n hl1.1) ?_
    simp -implicitDefEqProofs [h1']
  rw [if_neg (by simp [h1])] at hR
  cases b with
  | false =>
    rw [if_pos rfl] at hR
    subst hR
    simp -implicitDefEqProofs
    refine callK hcut ?_
    simp -implicitDefEqProofs
    refine callK (fname_fn n hl1.1) ?_
    simp -implicitDefEqProofs [h1]
  | true =>
    rw [if_neg (by simp), pathV_eq] at hR
    have hfc := fclean_fn (cutEnd v 93).1 hle
    rw [cleanF_eq] at hfc
    generalize cutEnd v 93 = e at *
    obtain ⟨w, d⟩ := e
    simp only at hR hce hle hfc
    cases d with
    | false =>
      rw [if_neg (by simp)] at hR
      subst hR
      simp -implicitDefEqProofs
      refine callK hcut ?_
      simp -implicitDefEqProofs
      refine callK (fname_fn n hl1.1) ?_
      simp -implicitDefEqProofs [h1]
      refine callK hce ?_
      simp -implicitDefEqProofs
    | true =>
      by_cases h2 : cleanB w = true
      · rw [if_pos (by simp [h2])] at hR
        rw [h2] at hfc
        subst hR
        simp -implicitDefEqProofs
        refine callK hcut ?_
        simp -implicitDefEqProofs
        refine callK (fname_fn n hl1.1) ?_
        simp -implicitDefEqProofs [h1]
        refine callK hce ?_
        simp -implicitDefEqProofs
        refine callK hfc ?_
        simp -implicitDefEqProofs
      · have h2' : cleanB w = false := by simpa using h2
        rw [if_neg (by simp [h2'])] at hR
        rw [h2'] at hfc
        subst hR
        simp -implicitDefEqProofs
        refine callK hcut ?_
        simp -implicitDefEqProofs
        refine callK (fname_fn n hl1.1) ?_
        simp -implicitDefEqProofs [h1]
        refine callK hce ?_
        simp -implicitDefEqProofs
        refine callK hfc ?_
        simp -implicitDefEqProofs

theorem pathR_fn (s : Str) (hs : List.length s < 1000000) : Ctr Tryz.prog 13 [.d (.str s)] (.tup [.d (.str (pathP s).1), .d (.str (pathP s).2.1), .d (.int .i64 (pathP s).2.2)]) := by
  refine fn_of_vwpN (rv := .tmp 2) (rs := [.tmp 3, .tmp 4]) (r := .d (.str (pathP s).1)) (ys := [.d (.str (pathP s).2.1), .d (.int .i64 (pathP s).2.2)]) (fun _ => false) (by kernel_rfl) Tryz.func13 (by kernel_rfl) rfl rfl (by simp) (Nat.le_of_ble_eq_true rfl) (by kernel_rfl) rfl rfl ?_
  obtain ⟨R, hR⟩ : ∃ R, pathP s = R := ⟨_, rfl⟩
  rw [hR]
  unfold pathP at hR
  have hF := first_fn s 91 hs
  by_cases hix : 0 ≤ ixB s 91
  · obtain ⟨k, hk⟩ := Int.eq_ofNat_of_zero_le hix
    have hlt := ixB_lt hix
    rw [hk, Int.toNat_natCast] at hlt
    have hcut : cutB s 91 = (s.take k, s.drop (k + 1), true) := by rw [cutB, if_pos hix, hk, Int.toNat_natCast]
    rw [hcut] at hR
    rw [hk] at hF
    have hn0 : ¬ (k : Int) < 0 := by omega
    simp only at hR
    have i1 : (0 : Int) ≤ (k : Int) + 1 := by omega
    have j1 : ((k : Int) + 1).toNat = k + 1 := by omega
    have i2 : (0 : Int) ≤ (List.length s : Int) - 1 := by omega
    have j2 : ((List.length s : Int) - 1).toNat = List.length s - 1 := by omega
    have i3 : (1 : Int) ≤ List.length s := by omega
    have g1 : s[List.length s - 1]? = some s[List.length s - 1] := List.getElem?_eq_getElem (by omega)
    by_cases h1 : nameB (s.take k) = true
    case neg =>
      have h1' : nameB (s.take k) = false := by simpa using h1
      rw [if_pos h1'] at hR
      subst hR
      simp -implicitDefEqProofs
      refine callK hF ?_
      simp -implicitDefEqProofs [hn0]
      repeat refine And.intro (by omega) ?_
      refine callK (name_fn (s.take k)) ?_
      simp -implicitDefEqProofs [h1']
    rw [if_neg (by simp [h1]), if_neg (by simp), pathV_eq] at hR
    have hlast : (s.drop (k + 1)).getLast? = some 93 ↔ s[List.length s - 1] = 93 ∧ k + 1 ≤ List.length s - 1 := by
      rw [List.getLast?_eq_getElem?, List.length_drop, List.getElem?_drop]
      by_cases hk1 : k + 1 ≤ List.length s - 1
      · rw [show k + 1 + (List.length s - (k + 1) - 1) = List.length s - 1 by omega, g1]
        simp [hk1]
      · rw [List.getElem?_eq_none (by omega)]
        simp [hk1]
    by_cases h93 : s[List.length s - 1] = 93 ∧ k + 1 ≤ List.length s - 1
    · obtain ⟨a1, a2⟩ := h93
      have a1' : (s[List.length s - 1].toNat : Int) = 93 := by rw [a1]; rfl
      have a2' : ¬ ((List.length s : Int) - 1 < (k : Int) + 1) := by omega
      have a3 : k + 1 ≤ List.length s - 1 := a2
      have hce : cutEnd (s.drop (k + 1)) 93 = (List.take (List.length s - 1 - (k + 1)) (List.drop (k + 1) s), true) := by
        rw [cutEnd, if_pos (hlast.2 ⟨a1, a2⟩), List.dropLast_eq_take, List.length_drop]
        congr 2; omega
      rw [hce] at hR
      simp only at hR
      have hcl := clean_fn (List.take (List.length s - 1 - (k + 1)) (List.drop (k + 1) s))
      generalize hw : List.take (List.length s - 1 - (k + 1)) (List.drop (k + 1) s) = w at *
      by_cases h2 : cleanB w = true
      · rw [if_pos (by simp [h2])] at hR
        rw [h2] at hcl
        subst hR
        simp -implicitDefEqProofs
        refine callK hF ?_
        simp -implicitDefEqProofs [hn0]
        repeat refine And.intro (by omega) ?_
        refine callK (name_fn (s.take k)) ?_
        simp -implicitDefEqProofs [h1, i1, j1, i2, j2, i3, g1, a1', a2', hw]
        repeat refine And.intro (by omega) ?_
        refine callK hcl ?_
        simp -implicitDefEqProofs [h1, i1, j1, i2, j2, i3, g1, a1', a2', hw]
        omega
      · have h2' : cleanB w = false := by simpa using h2
        rw [if_neg (by simp [h2'])] at hR
        rw [h2'] at hcl
        subst hR
        simp -implicitDefEqProofs
        refine callK hF ?_
        simp -implicitDefEqProofs [hn0]
        repeat refine And.intro (by omega) ?_
        refine callK (name_fn (s.take k)) ?_
        simp -implicitDefEqProofs [h1, i1, j1, i2, j2, i3, g1, a1', a2', hw]
        repeat refine And.intro (by omega) ?_
        refine callK hcl ?_
        simp -implicitDefEqProofs [h1, i1, j1, i2, j2, i3, g1, a1', a2', hw]
    · have hce : (cutEnd (s.drop (k + 1)) 93).2 = false := by
        rw [cutEnd, if_neg (fun h => h93 (hlast.1 h))]
      rw [if_neg (by simp [hce])] at hR
      subst hR
      by_cases a1 : s[List.length s - 1] = 93
      · have a1' : (s[List.length s - 1].toNat : Int) = 93 := by rw [a1]; rfl
        have a2' : (List.length s : Int) - 1 < (k : Int) + 1 := by
          have : ¬ (k + 1 ≤ List.length s - 1) := fun h => h93 ⟨a1, h⟩
          omega
        simp -implicitDefEqProofs
        refine callK hF ?_
        simp -implicitDefEqProofs [hn0]
        repeat refine And.intro (by omega) ?_
        refine callK (name_fn (s.take k)) ?_
        simp -implicitDefEqProofs [h1, i1, j1, i2, j2, i3, g1, a1', a2']
        omega
      · have a1' : ¬ ((s[List.length s - 1].toNat : Int) = 93) := fun e => a1 ((u8_int _ 93 (by omega)).1 e)
        simp -implicitDefEqProofs
        refine callK hF ?_
        simp -implicitDefEqProofs [hn0]
        repeat refine And.intro (by omega) ?_
        refine callK (name_fn (s.take k)) ?_
        simp -implicitDefEqProofs [h1, i1, j1, i2, j2, i3, g1, a1']
        omega
  · have hcut : cutB s 91 = (s, [], false) := by rw [cutB, if_neg hix]
    rw [hcut] at hR
    simp only at hR
    have hn0 : ixB s 91 < 0 := by omega
    by_cases h1 : nameB s = true
    · rw [if_neg (by simp [h1]), if_pos trivial] at hR
      subst hR
      simp -implicitDefEqProofs
      refine callK hF ?_
      simp -implicitDefEqProofs [hn0]
      refine callK (name_fn s) ?_
      simp -implicitDefEqProofs [h1]
    · have h1' : nameB s = false := by simpa using h1
      rw [if_pos h1'] at hR
      subst hR
      simp -implicitDefEqProofs
      refine callK hF ?_
      simp -implicitDefEqProofs [hn0]
      refine callK (name_fn s) ?_
      simp -implicitDefEqProofs [h1']
end Go.Proofs.Tz

/- Patch operations: Check, in both. -/
set_option maxRecDepth 100000
set_option maxHeartbeats 4000000
set_option linter.unusedVariables false
set_option linter.unusedSimpArgs false
namespace Go.Proofs.Tz
open Go.Vw Go.RowKit Go.Proofs

theorem within_fn (l : List Str) (s : Str) (hl : l.length < 1000000) : Ctr Tryz.prog 92 [.d (strs l), .d (.str s)] (.d (.bool (decide (s ∈ l)))) := by
  refine fn_of_vwp (fun _ => false) (by kernel_rfl) Tryz.func92 (by kernel_rfl) rfl rfl (Nat.le_of_ble_eq_true rfl) (by kernel_rfl) rfl rfl ?_
  simp -implicitDefEqProofs [strs]
  refine loopN l.length (fun k τ => τ 0 = .d (.sl (l.map .str)) ∧ τ 1 = .d (.str s) ∧ τ 5 = .d (.int .i64 k) ∧ s ∉ l.take k) (by simp) ?_
  rintro k τ hk ⟨h0, h1, h5, hn⟩
  by_cases hlt : k < l.length
  · have hlt' : (k : Int) < l.length := by omega
    by_cases he : l[k] = s
    · have hin : s ∈ l := by rw [← he]; exact List.getElem_mem hlt
      simp -implicitDefEqProofs [h0, h1, h5, hlt, hlt', he, hin]
    · simp -implicitDefEqProofs [h0, h1, h5, hlt, hlt', he]
      repeat refine And.intro (by omega) ?_
      refine again hlt ⟨by simp [h0], by simp [h1], by simp, ?_⟩
      rw [take_s hlt, List.mem_append, List.mem_singleton]
      rintro (h | h)
      · exact hn h
      · exact he h.symm
  · rw [List.take_of_length_le (by omega)] at hn
    have hlt' : ¬ (k : Int) < l.length := by omega
    simp -implicitDefEqProofs [h0, h1, h5, hlt, hlt', hn]

theorem chkW_drop {l : List Str} {k : Nat} (h : k < l.length) : chkW (l.take k) (l.drop k) = if cleanB l[k] = false then 8 else if l[k] ∈ l.take k then 7 else chkW (l.take (k + 1)) (l.drop (k + 1)) := by
  rw [drop_c h, chkW, take_s h]

theorem pvalues_fn (l : List Str) (hl : l.length < 1000000) (hv : ∀ v ∈ l, List.length v < 1000000) : Ctr Tryz.prog 44 [.d (strs l)] (.d (.int .i64 (valsP l))) := by
  refine fn_of_vwp (fun _ => false) (by kernel_rfl) Tryz.func44 (by kernel_rfl) rfl rfl (Nat.le_of_ble_eq_true rfl) (by kernel_rfl) rfl rfl ?_
  obtain ⟨R, hR⟩ : ∃ R, valsP l = R := ⟨_, rfl⟩
  rw [hR]
  unfold valsP at hR
  by_cases h16 : 16 < l.length
  · have h16' : (16 : Int) < l.length := by omega
    rw [if_pos h16] at hR
    subst hR
    simp -implicitDefEqProofs [strs, h16']
  have h16' : ¬ (16 : Int) < l.length := by omega
  rw [if_neg h16] at hR
  simp -implicitDefEqProofs [strs, h16']
  refine loopN l.length (fun k τ => τ 0 = .d (.sl (l.map .str)) ∧ τ 8 = .d (.sl (l.map .str)) ∧ τ 9 = .d (.int .i64 l.length) ∧ τ 10 = .d (.int .i64 k) ∧ R = chkW (l.take k) (l.drop k)) (by simp [hR]) ?_
  clear hR
  rintro k τ hk ⟨h0, h8, h9, h10, hR⟩
  by_cases hlt : k < l.length
  · have hlt' : (k : Int) < l.length := by omega
    rw [chkW_drop hlt] at hR
    have hc := contains_fn (l.take k) l[k] (by rw [List.length_take]; omega)
    have hxl := hv l[k] (List.getElem_mem hlt)
    have hfc := fclean_fn l[k] hxl
    rw [cleanF_eq] at hfc
    simp only [strs, List.map_take] at hc
    generalize hx : l[k] = x at *
    by_cases hcl : cleanB x = true
    · rw [if_neg (by simp [hcl])] at hR
      rw [hcl] at hfc
      by_cases hin : x ∈ l.take k
      · rw [if_pos hin] at hR
        rw [decide_eq_true hin] at hc
        subst hR
        simp -implicitDefEqProofs [h0, h8, h9, h10, hlt, hlt', hx]
        refine callK hfc ?_
        simp -implicitDefEqProofs [h0, h8, h9, h10, hlt, hlt', hx]
        repeat refine And.intro (by omega) ?_
        refine callK hc ?_
        simp -implicitDefEqProofs [h0, h8, h9, h10, hlt, hlt', hx]
      · rw [if_neg hin] at hR
        rw [decide_eq_false hin] at hc
        simp -implicitDefEqProofs [h0, h8, h9, h10, hlt, hlt', hx]
        refine callK hfc ?_
        simp -implicitDefEqProofs [h0, h8, h9, h10, hlt, hlt', hx]
        repeat refine And.intro (by omega) ?_
        refine callK hc ?_
        simp -implicitDefEqProofs [h0, h8, h9, h10, hlt, hlt', hx]
        repeat refine And.intro (by omega) ?_
        exact again hlt ⟨by simp [h0], by simp [h8], by simp [h9], by simp, hR⟩
    · have hcl' : cleanB x = false := by simpa using hcl
      rw [if_pos hcl'] at hR
      rw [hcl'] at hfc
      subst hR
      simp -implicitDefEqProofs [h0, h8, h9, h10, hlt, hlt', hx]
      refine callK hfc ?_
      simp -implicitDefEqProofs [h0, h8, h9, h10, hlt, hlt', hx]
  · rw [List.drop_of_length_le (by omega)] at hR
    have hlt' : ¬ (k : Int) < l.length := by omega
    subst hR
    simp -implicitDefEqProofs [h0, h8, h9, h10, hlt, hlt', chkW]

theorem fits_fn (x : POp) (v : Str) : Ctr Tryz.prog 43 [.d (popD x), .d (.str v)] (.d (.bool (fitsP x.1 v x.2.2))) := by
  obtain ⟨o, p, vs⟩ := x
  refine fn_of_vwp (fun _ => false) (by kernel_rfl) Tryz.func43 (by kernel_rfl) rfl rfl (Nat.le_of_ble_eq_true rfl) (by kernel_rfl) rfl rfl ?_
  by_cases c1 : o = oAdd
  · subst c1
    by_cases c2 : v = []
    · by_cases c3 : vs = []
      · simp -implicitDefEqProofs [popD, strs, c2, c3, fitsP]
      · have : (0 : Int) < vs.length := by have := List.length_pos_iff.2 c3; omega
        have h0 : 0 < vs.length := List.length_pos_iff.2 c3
        simp -implicitDefEqProofs [popD, strs, c2, c3, fitsP, this, h0]
    · simp -implicitDefEqProofs [popD, strs, c2, fitsP]
  by_cases c2 : o = oRem
  · subst c2
    have e1 : ¬ oRem = oAdd := by decide
    by_cases c3 : vs = []
    · simp -implicitDefEqProofs [popD, strs, c3, fitsP, e1]
    · simp -implicitDefEqProofs [popD, strs, c3, fitsP, e1]
  · by_cases c3 : v = []
    · simp -implicitDefEqProofs [popD, strs, c1, c2, c3, fitsP]
    · by_cases c4 : vs.length = 1
      · simp -implicitDefEqProofs [popD, strs, c1, c2, c3, c4, fitsP]
      · have c4' : ¬ (vs.length : Int) = 1 := by omega
        simp -implicitDefEqProofs [popD, strs, c1, c2, c3, c4, c4', fitsP]

theorem chkOps_drop {l : List POp} {k : Nat} (h : k < l.length) : chkOps (l.drop k) = if chkOp l[k] = 0 then chkOps (l.drop (k + 1)) else chkOp l[k] := by rw [drop_c h]; rfl

theorem opB_no {o : Str} (h : opB o = false) : ¬ o = oAdd ∧ ¬ o = oRem ∧ ¬ o = oRepl := by
  simp only [opB, Bool.or_eq_false_iff, decide_eq_false_iff_not] at h
  exact ⟨h.1.1, h.1.2, h.2⟩

theorem pcheck_fn (l : List POp) (hl : FitP l) : Ctr Tryz.prog 14 [.d (pops l)] (.d (.int .i64 (checkP l))) := by
  refine fn_of_vwp (fun _ => false) (by kernel_rfl) Tryz.func14 (by kernel_rfl) rfl rfl (Nat.le_of_ble_eq_true rfl) (by kernel_rfl) rfl rfl ?_
  obtain ⟨R, hR⟩ : ∃ R, checkP l = R := ⟨_, rfl⟩
  rw [hR]
  unfold checkP at hR
  by_cases h32 : 32 < l.length
  · have h32' : (32 : Int) < l.length := by omega
    rw [if_pos h32] at hR
    subst hR
    simp -implicitDefEqProofs [pops, h32']
  have h32' : ¬ (32 : Int) < l.length := by omega
  rw [if_neg h32] at hR
  simp -implicitDefEqProofs [pops, h32']
  refine loopN l.length (fun k τ => τ 12 = .d (.sl (l.map popD)) ∧ τ 13 = .d (.int .i64 l.length) ∧ τ 14 = .d (.int .i64 k) ∧ R = chkOps (l.drop k)) (by simp [hR]) ?_
  clear hR
  rintro k τ hk ⟨h12, h13, h14, hR⟩
  by_cases hlt : k < l.length
  · have hlt' : (k : Int) < l.length := by omega
    rw [chkOps_drop hlt] at hR
    obtain ⟨f1, f2, f3, f4⟩ := hl.2 l[k] (List.getElem_mem hlt)
    generalize hx : l[k] = x at *
    obtain ⟨o, p, vs⟩ := x
    simp only at f1 f2 f3 f4
    have hpath := path_fn p f2
    have hfit := fits_fn (o, p, vs) (pathP p).2.1
    have hval := pvalues_fn vs f3 f4
    simp only [popD, strs] at hfit hval
    have hc : chkOp (o, p, vs) = if opB o = false then 2 else if (pathP p).2.2 ≠ 0 then (pathP p).2.2 else if fitsP o (pathP p).2.1 vs = false then 4 else valsP vs := rfl
    generalize chkOp (o, p, vs) = C at *
    generalize pathP p = P at *
    generalize valsP vs = V at *
    by_cases h1 : opB o = true
    case neg =>
      have h1' : opB o = false := by simpa using h1
      obtain ⟨a1, a2, a3⟩ := opB_no h1'
      rw [if_pos h1'] at hc
      subst hc
      rw [if_neg (by decide)] at hR
      subst hR
      simp -implicitDefEqProofs [h12, h13, h14, hlt, hlt', hx, popD, strs, a1, a2, a3]
    rw [if_neg (by simp [h1])] at hc
    have walk : ∀ (K : Prop), K → K := fun _ h => h
    by_cases h2 : P.2.2 = 0
    case neg =>
      rw [if_pos h2] at hc
      subst hc
      rw [if_neg h2] at hR
      subst hR
      rcases opB_cases h1 with rfl | rfl | rfl
      all_goals
        simp -implicitDefEqProofs [h12, h13, h14, hlt, hlt', hx, popD, strs]
        refine callK hpath ?_
        simp -implicitDefEqProofs [h12, h13, h14, hlt, hlt', h2]
    rw [if_neg (by simp [h2])] at hc
    by_cases h3 : fitsP o P.2.1 vs = true
    case neg =>
      have h3' : fitsP o P.2.1 vs = false := by simpa using h3
      rw [if_pos h3'] at hc
      rw [h3'] at hfit
      subst hc
      rw [if_neg (by decide)] at hR
      subst hR
      rcases opB_cases h1 with rfl | rfl | rfl
      all_goals
        simp -implicitDefEqProofs [h12, h13, h14, hlt, hlt', hx, popD, strs]
        refine callK hpath ?_
        simp -implicitDefEqProofs [h12, h13, h14, hlt, hlt', h2]
        refine callK hfit ?_
        simp -implicitDefEqProofs [h12, h13, h14, hlt, hlt', h2]
    rw [if_neg (by simp [h3])] at hc
    rw [h3] at hfit
    subst hc
    by_cases h4 : C = 0
    · rw [if_pos h4] at hR
      rcases opB_cases h1 with rfl | rfl | rfl
      all_goals
        simp -implicitDefEqProofs [h12, h13, h14, hlt, hlt', hx, popD, strs]
        refine callK hpath ?_
        simp -implicitDefEqProofs [h12, h13, h14, hlt, hlt', h2]
        refine callK hfit ?_
        simp -implicitDefEqProofs [h12, h13, h14, hlt, hlt', h2]
        refine callK hval ?_
        simp -implicitDefEqProofs [h12, h13, h14, hlt, hlt', h4]
        repeat refine And.intro (by omega) ?_
        exact again hlt ⟨by simp [h12], by simp [h13], by simp, hR⟩
    · rw [if_neg h4] at hR
      subst hR
      rcases opB_cases h1 with rfl | rfl | rfl
      all_goals
        simp -implicitDefEqProofs [h12, h13, h14, hlt, hlt', hx, popD, strs]
        refine callK hpath ?_
        simp -implicitDefEqProofs [h12, h13, h14, hlt, hlt', h2]
        refine callK hfit ?_
        simp -implicitDefEqProofs [h12, h13, h14, hlt, hlt', h2]
        refine callK hval ?_
        simp -implicitDefEqProofs [h12, h13, h14, hlt, hlt', h4]
  · rw [List.drop_of_length_le (by omega)] at hR
    have hlt' : ¬ (k : Int) < l.length := by omega
    subst hR
    simp -implicitDefEqProofs [h12, h13, h14, hlt, hlt', chkOps]
end Go.Proofs.Tz

/- Patch operations: the reference's Check; lists of values. -/
set_option maxRecDepth 100000
set_option maxHeartbeats 4000000
set_option linter.unusedVariables false
set_option linter.unusedSimpArgs false
namespace Go.Proofs.Tz
open Go.Vw Go.RowKit Go.Proofs

theorem one_fn (x : POp) (hp : List.length x.2.1 < 1000000) (hl : x.2.2.length < 1000000) (hv : ∀ v ∈ x.2.2, List.length v < 1000000) : Ctr Tryz.prog 45 [.d (popD x)] (.d (.int .i64 (chkOp x))) := by
  obtain ⟨o, p, vs⟩ := x
  simp only at hp hl hv
  refine fn_of_vwp (fun _ => false) (by kernel_rfl) Tryz.func45 (by kernel_rfl) rfl rfl (Nat.le_of_ble_eq_true rfl) (by kernel_rfl) rfl rfl ?_
  have hpath := pathR_fn p hp
  have hc : chkOp (o, p, vs) = if opB o = false then 2 else if (pathP p).2.2 ≠ 0 then (pathP p).2.2 else if fitsP o (pathP p).2.1 vs = false then 4 else valsP vs := rfl
  generalize chkOp (o, p, vs) = C at *
  generalize pathP p = P at *
  obtain ⟨pn, pv, pe⟩ := P
  simp only at hpath hc
  by_cases h1 : opB o = true
  case neg =>
    have h1' : opB o = false := by simpa using h1
    obtain ⟨a1, a2, a3⟩ := opB_no h1'
    rw [if_pos h1'] at hc
    subst hc
    simp -implicitDefEqProofs [popD, strs, a1, a2, a3]
  rw [if_neg (by simp [h1])] at hc
  by_cases h2 : pe = 0
  case neg =>
    rw [if_pos h2] at hc
    subst hc
    rcases opB_cases h1 with rfl | rfl | rfl
    all_goals
      simp -implicitDefEqProofs [popD, strs]
      refine callK hpath ?_
      simp -implicitDefEqProofs [h2]
  rw [if_neg (by simp [h2])] at hc
  subst h2
  have hz : (vs.length : Int) = 0 ↔ vs = [] := by rw [← List.length_eq_zero_iff]; omega
  have hz1 : (0 : Int) < vs.length ↔ vs ≠ [] := by rw [← List.length_pos_iff]; omega
  by_cases h3 : fitsP o pv vs = true
  case neg =>
    have h3' : fitsP o pv vs = false := by simpa using h3
    rw [if_pos h3'] at hc
    subst hc
    rcases opB_cases h1 with rfl | rfl | rfl
    · by_cases c2 : pv = []
      · have c3 : vs = [] := by
          rw [fitsP, if_pos rfl] at h3'
          simpa [c2] using h3'
        subst c3
        simp -implicitDefEqProofs [popD, strs]
        refine callK hpath ?_
        simp -implicitDefEqProofs [c2]
      · simp -implicitDefEqProofs [popD, strs]
        refine callK hpath ?_
        simp -implicitDefEqProofs [c2]
    · have c3 : vs ≠ [] := by
        rw [fitsP, if_neg (by decide), if_pos rfl] at h3'
        simpa using h3'
      have c4 := hz1.2 c3
      have c5 : 0 < vs.length := List.length_pos_iff.2 c3
      simp -implicitDefEqProofs [popD, strs]
      refine callK hpath ?_
      simp -implicitDefEqProofs [c3, c4, c5]
    · rw [fitsP, if_neg (by decide), if_neg (by decide)] at h3'
      simp only [Bool.or_eq_false_iff, decide_eq_false_iff_not] at h3'
      have c4 : ¬ (vs.length : Int) = 1 := by omega
      simp -implicitDefEqProofs [popD, strs]
      refine callK hpath ?_
      simp -implicitDefEqProofs [h3'.1, h3'.2, c4]
  rw [if_neg (by simp [h3])] at hc
  unfold valsP at hc
  by_cases h16 : 16 < vs.length
  · have h16' : (16 : Int) < vs.length := by omega
    have h0 : vs ≠ [] := by rintro rfl; simp at h16
    have h0' : ¬ vs.length = 1 := by omega
    rw [if_pos h16] at hc
    subst hc
    rcases opB_cases h1 with rfl | rfl | rfl
    · have c2 : pv = [] := by
        rw [fitsP, if_pos rfl] at h3
        simp only [Bool.and_eq_true, decide_eq_true_eq] at h3
        exact h3.1
      simp -implicitDefEqProofs [popD, strs]
      refine callK hpath ?_
      simp -implicitDefEqProofs [c2, h16, h16', h0]
    · rw [fitsP, if_neg (by decide), if_pos rfl] at h3
      exact absurd (by simpa using h3) h0
    · have c2 : pv = [] := by
        rw [fitsP, if_neg (by decide), if_neg (by decide)] at h3
        simp only [Bool.or_eq_true, decide_eq_true_eq] at h3
        rcases h3 with h | h
        · exact h
        · omega
      simp -implicitDefEqProofs [popD, strs]
      refine callK hpath ?_
      simp -implicitDefEqProofs [c2, h16, h16', h0]
  have h16' : ¬ (16 : Int) < vs.length := by omega
  rw [if_neg h16] at hc
  have hone : ∀ k (h : k < vs.length), Ctr Tryz.prog 92 [.d (.sl (List.take k (List.map D.str vs))), .d (.str vs[k])] (.d (.bool (decide (vs[k] ∈ vs.take k)))) := fun k h => by
    have := within_fn (vs.take k) vs[k] (by rw [List.length_take]; omega)
    simpa only [strs, List.map_take] using this
  rcases opB_cases h1 with rfl | rfl | rfl
  · have c2 : pv = [] ∧ vs ≠ [] := by
      rw [fitsP, if_pos rfl] at h3
      simpa using h3
    obtain ⟨c2, c3⟩ := c2
    simp -implicitDefEqProofs [popD, strs]
    refine callK hpath ?_
    simp -implicitDefEqProofs [c2, h16, h16', c3]
    refine loopN vs.length (fun k τ => τ 1 = .box (.agg [.str oAdd, .str p, .sl (vs.map .str)]) ∧ τ 6 = .d (.int .i64 vs.length) ∧ τ 7 = .d (.int .i64 k) ∧ C = chkW (vs.take k) (vs.drop k)) (by simp [hc]) ?_
    rintro k τ hk ⟨g1, g6, g7, hC⟩
    by_cases hlt : k < vs.length
    · have hlt' : (k : Int) < vs.length := by omega
      rw [chkW_drop hlt] at hC
      have hin := hone k hlt
      have hcl := clean_fn vs[k]
      generalize hx : vs[k] = v at *
      by_cases e1 : cleanB v = true
      · rw [if_neg (by simp [e1])] at hC
        rw [e1] at hcl
        by_cases e2 : v ∈ vs.take k
        · rw [if_pos e2] at hC
          rw [decide_eq_true e2] at hin
          subst hC
          simp -implicitDefEqProofs [g1, g6, g7, hlt, hlt', hx]
          refine callK hcl ?_
          simp -implicitDefEqProofs [g1, g6, g7, hlt, hlt', hx]
          repeat refine And.intro (by omega) ?_
          refine callP hin ?_
          simp -implicitDefEqProofs [g1, g6, g7, hlt, hlt', hx]
        · rw [if_neg e2] at hC
          rw [decide_eq_false e2] at hin
          simp -implicitDefEqProofs [g1, g6, g7, hlt, hlt', hx]
          refine callK hcl ?_
          simp -implicitDefEqProofs [g1, g6, g7, hlt, hlt', hx]
          repeat refine And.intro (by omega) ?_
          refine callP hin ?_
          simp -implicitDefEqProofs [g1, g6, g7, hlt, hlt', hx]
          repeat refine And.intro (by omega) ?_
          exact again hlt ⟨by simp [g1], by simp [g6], by simp, hC⟩
      · have e1' : cleanB v = false := by simpa using e1
        rw [if_pos e1'] at hC
        rw [e1'] at hcl
        subst hC
        simp -implicitDefEqProofs [g1, g6, g7, hlt, hlt', hx]
        refine callK hcl ?_
        simp -implicitDefEqProofs [g1, g6, g7, hlt, hlt', hx]
    · rw [List.drop_of_length_le (by omega)] at hC
      have hlt' : ¬ (k : Int) < vs.length := by omega
      subst hC
      simp -implicitDefEqProofs [g1, g6, g7, hlt, hlt', chkW]
  · have c3 : vs = [] := by
      rw [fitsP, if_neg (by decide), if_pos rfl] at h3
      simpa using h3
    subst c3
    have hC : C = 0 := by rw [hc]; rfl
    subst hC
    simp -implicitDefEqProofs [popD, strs]
    refine callK hpath ?_
    simp -implicitDefEqProofs
    refine loopN 0 (fun k τ => τ 6 = .d (.int .i64 0) ∧ τ 7 = .d (.int .i64 0)) (by simp) ?_
    rintro k τ hk ⟨h6, h7⟩
    simp -implicitDefEqProofs [h6, h7]
  · have c2 : pv = [] ∨ vs.length = 1 := by
      rw [fitsP, if_neg (by decide), if_neg (by decide)] at h3
      simpa using h3
    rcases c2 with c2 | c2
    · simp -implicitDefEqProofs [popD, strs]
      refine callK hpath ?_
      simp -implicitDefEqProofs [c2, h16, h16']
      refine loopN vs.length (fun k τ => τ 1 = .box (.agg [.str oRepl, .str p, .sl (vs.map .str)]) ∧ τ 6 = .d (.int .i64 vs.length) ∧ τ 7 = .d (.int .i64 k) ∧ C = chkW (vs.take k) (vs.drop k)) (by simp [hc]) ?_
      rintro k τ hk ⟨g1, g6, g7, hC⟩
      by_cases hlt : k < vs.length
      · have hlt' : (k : Int) < vs.length := by omega
        rw [chkW_drop hlt] at hC
        have hin := hone k hlt
        have hcl := clean_fn vs[k]
        generalize hx : vs[k] = v at *
        by_cases e1 : cleanB v = true
        · rw [if_neg (by simp [e1])] at hC
          rw [e1] at hcl
          by_cases e2 : v ∈ vs.take k
          · rw [if_pos e2] at hC
            rw [decide_eq_true e2] at hin
            subst hC
            simp -implicitDefEqProofs [g1, g6, g7, hlt, hlt', hx]
            refine callK hcl ?_
            simp -implicitDefEqProofs [g1, g6, g7, hlt, hlt', hx]
            repeat refine And.intro (by omega) ?_
            refine callP hin ?_
            simp -implicitDefEqProofs [g1, g6, g7, hlt, hlt', hx]
          · rw [if_neg e2] at hC
            rw [decide_eq_false e2] at hin
            simp -implicitDefEqProofs [g1, g6, g7, hlt, hlt', hx]
            refine callK hcl ?_
            simp -implicitDefEqProofs [g1, g6, g7, hlt, hlt', hx]
            repeat refine And.intro (by omega) ?_
            refine callP hin ?_
            simp -implicitDefEqProofs [g1, g6, g7, hlt, hlt', hx]
            repeat refine And.intro (by omega) ?_
            exact again hlt ⟨by simp [g1], by simp [g6], by simp, hC⟩
        · have e1' : cleanB v = false := by simpa using e1
          rw [if_pos e1'] at hC
          rw [e1'] at hcl
          subst hC
          simp -implicitDefEqProofs [g1, g6, g7, hlt, hlt', hx]
          refine callK hcl ?_
          simp -implicitDefEqProofs [g1, g6, g7, hlt, hlt', hx]
      · rw [List.drop_of_length_le (by omega)] at hC
        have hlt' : ¬ (k : Int) < vs.length := by omega
        subst hC
        simp -implicitDefEqProofs [g1, g6, g7, hlt, hlt', chkW]
    · by_cases c3 : pv = []
      · simp -implicitDefEqProofs [popD, strs]
        refine callK hpath ?_
        simp -implicitDefEqProofs [c3, h16, h16']
        refine loopN vs.length (fun k τ => τ 1 = .box (.agg [.str oRepl, .str p, .sl (vs.map .str)]) ∧ τ 6 = .d (.int .i64 vs.length) ∧ τ 7 = .d (.int .i64 k) ∧ C = chkW (vs.take k) (vs.drop k)) (by simp [hc]) ?_
        rintro k τ hk ⟨g1, g6, g7, hC⟩
        by_cases hlt : k < vs.length
        · have hlt' : (k : Int) < vs.length := by omega
          rw [chkW_drop hlt] at hC
          have hin := hone k hlt
          have hcl := clean_fn vs[k]
          generalize hx : vs[k] = v at *
          by_cases e1 : cleanB v = true
          · rw [if_neg (by simp [e1])] at hC
            rw [e1] at hcl
            by_cases e2 : v ∈ vs.take k
            · rw [if_pos e2] at hC
              rw [decide_eq_true e2] at hin
              subst hC
              simp -implicitDefEqProofs [g1, g6, g7, hlt, hlt', hx]
              refine callK hcl ?_
              simp -implicitDefEqProofs [g1, g6, g7, hlt, hlt', hx]
              repeat refine And.intro (by omega) ?_
              refine callP hin ?_
              simp -implicitDefEqProofs [g1, g6, g7, hlt, hlt', hx]
            · rw [if_neg e2] at hC
              rw [decide_eq_false e2] at hin
              simp -implicitDefEqProofs [g1, g6, g7, hlt, hlt', hx]
              refine callK hcl ?_
              simp -implicitDefEqProofs [g1, g6, g7, hlt, hlt', hx]
              repeat refine And.intro (by omega) ?_
              refine callP hin ?_
              simp -implicitDefEqProofs [g1, g6, g7, hlt, hlt', hx]
              repeat refine And.intro (by omega) ?_
              exact again hlt ⟨by simp [g1], by simp [g6], by simp, hC⟩
          · have e1' : cleanB v = false := by simpa using e1
            rw [if_pos e1'] at hC
            rw [e1'] at hcl
            subst hC
            simp -implicitDefEqProofs [g1, g6, g7, hlt, hlt', hx]
            refine callK hcl ?_
            simp -implicitDefEqProofs [g1, g6, g7, hlt, hlt', hx]
        · rw [List.drop_of_length_le (by omega)] at hC
          have hlt' : ¬ (k : Int) < vs.length := by omega
          subst hC
          simp -implicitDefEqProofs [g1, g6, g7, hlt, hlt', chkW]
      · simp -implicitDefEqProofs [popD, strs]
        refine callK hpath ?_
        simp -implicitDefEqProofs [c3, c2, h16, h16']
        refine loopN vs.length (fun k τ => τ 1 = .box (.agg [.str oRepl, .str p, .sl (vs.map .str)]) ∧ τ 6 = .d (.int .i64 vs.length) ∧ τ 7 = .d (.int .i64 k) ∧ C = chkW (vs.take k) (vs.drop k)) (by simp [hc, c2]) ?_
        rintro k τ hk ⟨g1, g6, g7, hC⟩
        by_cases hlt : k < vs.length
        · have hlt' : (k : Int) < vs.length := by omega
          rw [chkW_drop hlt] at hC
          have hin := hone k hlt
          have hcl := clean_fn vs[k]
          generalize hx : vs[k] = v at *
          by_cases e1 : cleanB v = true
          · rw [if_neg (by simp [e1])] at hC
            rw [e1] at hcl
            by_cases e2 : v ∈ vs.take k
            · rw [if_pos e2] at hC
              rw [decide_eq_true e2] at hin
              subst hC
              simp -implicitDefEqProofs [g1, g6, g7, hlt, hlt', hx]
              refine callK hcl ?_
              simp -implicitDefEqProofs [g1, g6, g7, hlt, hlt', hx]
              repeat refine And.intro (by omega) ?_
              refine callP hin ?_
              simp -implicitDefEqProofs [g1, g6, g7, hlt, hlt', hx]
            · rw [if_neg e2] at hC
              rw [decide_eq_false e2] at hin
              simp -implicitDefEqProofs [g1, g6, g7, hlt, hlt', hx]
              refine callK hcl ?_
              simp -implicitDefEqProofs [g1, g6, g7, hlt, hlt', hx]
              repeat refine And.intro (by omega) ?_
              refine callP hin ?_
              simp -implicitDefEqProofs [g1, g6, g7, hlt, hlt', hx]
              repeat refine And.intro (by omega) ?_
              exact again hlt ⟨by simp [g1], by simp [g6], by simp, hC⟩
          · have e1' : cleanB v = false := by simpa using e1
            rw [if_pos e1'] at hC
            rw [e1'] at hcl
            subst hC
            simp -implicitDefEqProofs [g1, g6, g7, hlt, hlt', hx]
            refine callK hcl ?_
            simp -implicitDefEqProofs [g1, g6, g7, hlt, hlt', hx]
        · rw [List.drop_of_length_le (by omega)] at hC
          have hlt' : ¬ (k : Int) < vs.length := by omega
          subst hC
          simp -implicitDefEqProofs [g1, g6, g7, hlt, hlt', chkW]

theorem pcheckR_fn (l : List POp) (hl : FitP l) : Ctr Tryz.prog 15 [.d (pops l)] (.d (.int .i64 (checkP l))) := by
  refine fn_of_vwp (fun _ => false) (by kernel_rfl) Tryz.func15 (by kernel_rfl) rfl rfl (Nat.le_of_ble_eq_true rfl) (by kernel_rfl) rfl rfl ?_
  obtain ⟨R, hR⟩ : ∃ R, checkP l = R := ⟨_, rfl⟩
  rw [hR]
  unfold checkP at hR
  by_cases h32 : 32 < l.length
  · have h32' : (32 : Int) < l.length := by omega
    rw [if_pos h32] at hR
    subst hR
    simp -implicitDefEqProofs [pops, h32']
  have h32' : ¬ (32 : Int) < l.length := by omega
  rw [if_neg h32] at hR
  simp -implicitDefEqProofs [pops, h32']
  refine loopN l.length (fun k τ => τ 0 = .d (.sl (l.map popD)) ∧ τ 3 = .d (.int .i64 k) ∧ R = chkOps (l.drop k)) (by simp [hR]) ?_
  clear hR
  rintro k τ hk ⟨h0, h3, hR⟩
  by_cases hlt : k < l.length
  · have hlt' : (k : Int) < l.length := by omega
    rw [chkOps_drop hlt] at hR
    obtain ⟨f1, f2, f3, f4⟩ := hl.2 l[k] (List.getElem_mem hlt)
    have ho := one_fn l[k] f2 f3 f4
    generalize hx : l[k] = x at *
    obtain ⟨o, p, vs⟩ := x
    simp only [popD, strs] at ho
    by_cases hc : chkOp (o, p, vs) = 0
    · rw [if_pos hc] at hR
      rw [hc] at ho
      simp -implicitDefEqProofs [h0, h3, hlt, hlt', hx, popD, strs]
      refine callK ho ?_
      simp -implicitDefEqProofs [h0, h3, hlt, hlt']
      repeat refine And.intro (by omega) ?_
      exact again hlt ⟨by simp [h0], by simp, hR⟩
    · rw [if_neg hc] at hR
      subst hR
      simp -implicitDefEqProofs [h0, h3, hlt, hlt', hx, popD, strs]
      refine callK ho ?_
      simp -implicitDefEqProofs [h0, h3, hlt, hlt', hc]
  · rw [List.drop_of_length_le (by omega)] at hR
    have hlt' : ¬ (k : Int) < l.length := by omega
    subst hR
    simp -implicitDefEqProofs [h0, h3, hlt, hlt', chkOps]

/-! ### lists of values -/
def missD (old vs : List Str) (k : Nat) : List D := (missL old (vs.take k)).map .str
theorem missD_zero (old vs : List Str) : missD old vs 0 = [] := rfl
theorem missD_succ (old : List Str) {vs : List Str} {k : Nat} (h : k < vs.length) : missD old vs (k + 1) = missD old vs k ++ if vs[k] ∈ old then [] else [.str vs[k]] := by
  rw [missD, missD, take_s h, missL, List.filter_append, List.map_append]
  congr 1
  by_cases hn : vs[k] ∈ old <;> simp [hn]
theorem missD_len (old vs : List Str) (k : Nat) : (missD old vs k).length ≤ k := by
  rw [missD, List.length_map]
  exact Nat.le_trans (List.length_filter_le _ _) (by rw [List.length_take]; omega)
theorem missD_all (old vs : List Str) {k : Nat} (h : vs.length ≤ k) : missD old vs k = (missL old vs).map .str := by rw [missD, List.take_of_length_le h]

theorem missing_fn (old vs : List Str) (ho : old.length < 1000000) (hv : vs.length < 1000000) : Ctr Tryz.prog 93 [.d (strs old), .d (strs vs)] (.d (strs (missL old vs))) := by
  refine fn_of_vwp (fun _ => false) (by kernel_rfl) Tryz.func93 (by kernel_rfl) rfl rfl (Nat.le_of_ble_eq_true rfl) (by kernel_rfl) rfl rfl ?_
  simp -implicitDefEqProofs [strs]
  refine loopN vs.length (fun k τ => τ 0 = .d (.sl (old.map .str)) ∧ τ 8 = .d (.sl (vs.map .str)) ∧ τ 9 = .d (.int .i64 vs.length) ∧ τ 10 = .d (.int .i64 k) ∧ τ 5 = .own false 9 (missD old vs k)) (by simp [missD_zero]) ?_
  rintro k τ hk ⟨h0, h8, h9, h10, h5⟩
  by_cases hlt : k < vs.length
  · have hlt' : (k : Int) < vs.length := by omega
    have e1 := missD_succ old hlt
    have e2 := missD_len old vs k
    have hc := contains_fn old vs[k] ho
    simp only [strs] at hc
    generalize hx : vs[k] = x at *
    simp -implicitDefEqProofs [h0, h8, h9, h10, h5, hlt, hlt', hx]
    refine callK hc ?_
    by_cases hin : x ∈ old
    · rw [if_pos hin, List.append_nil] at e1
      simp -implicitDefEqProofs [h0, h8, h9, h10, h5, hlt, hlt', hx, hin]
      repeat refine And.intro (by omega) ?_
      exact again hlt ⟨by simp [h0], by simp [h8], by simp [h9], by simp, by simp [h5, e1]⟩
    · rw [if_neg hin] at e1
      simp -implicitDefEqProofs [h0, h8, h9, h10, h5, hlt, hlt', hx, hin]
      repeat refine And.intro (by omega) ?_
      exact again hlt ⟨by simp [h0], by simp [h8], by simp [h9], by simp, by simp [e1]⟩
  · rw [missD_all old vs (by omega)] at h5
    have hlt' : ¬ (k : Int) < vs.length := by omega
    simp -implicitDefEqProofs [h0, h8, h9, h10, h5, hlt, hlt', strs]

theorem deleteS_fn (g : FuncId) (cs : List D) (hcs : (cs.all fun c => !c.isAgg) = true) (p : Str → Bool) (l : List Str) (hl : l.length < 1000000) (hp : ∀ a ∈ l, Ctr Tryz.prog g ([.d (.str a)] ++ cs.map .d) (.d (.bool (p a)))) :
    Ctr Tryz.prog 117 [.own true 9 (l.map .str), .d (.clo g cs)] (.own true 9 ((l.filter fun x => !p x).map .str)) := by
  refine fn_of_vwp (fun i => i == 2000010) (by kernel_rfl) Tryz.func117 (by kernel_rfl) rfl rfl (Nat.le_of_ble_eq_true rfl) (by kernel_rfl) rfl rfl ?_
  simp -implicitDefEqProofs
  refine lendK (indexS_fn g cs hcs p l hl hp) rfl ?_
  by_cases hn : idxG p 0 l = -1
  · simp -implicitDefEqProofs [hn, idxG_neg p l 0 hn]
  · obtain ⟨i, h1, h2, h3, h4⟩ := idxG_pos p l 0 hn
    simp only [Nat.zero_add] at h1
    have e1 : ¬ ((i : Int) = -1) := by omega
    simp -implicitDefEqProofs [h1, e1]
    refine ⟨by omega, ?_⟩
    refine loopK (fun n τ => ∃ (j q : Nat) (m : List Str), n = l.length - j ∧ j ≤ l.length ∧ τ 0 = .own true 9 (m.map .str) ∧ τ 1 = .d (.clo g cs) ∧ τ 5 = .d (.int .i64 q) ∧ τ 6 = .d (.int .i64 j) ∧ m.length = l.length ∧ q < j ∧ m.take q = (l.take j).filter (fun x => !p x) ∧ m.drop j = l.drop j)
      (l.length - (i + 1)) ⟨i + 1, i, l, rfl, by omega, by simp, by simp, by simp, by simp, rfl, by omega, h4.symm, rfl⟩ ?_
    rintro n τ ⟨j, q, m, rfl, hj, g0, g1, g5, g6, hm, hq, ht, hd⟩
    by_cases hlt : j < l.length
    · have hmj : m[j]'(by omega) = l[j] := by
        have := congrArg (fun x : List Str => x[0]?) hd
        simpa [hlt, hm] using this
      have hf := hp _ (List.getElem_mem hlt)
      simp only [List.cons_append, List.nil_append] at hf
      have hlt' : (j : Int) < l.length := by omega
      simp -implicitDefEqProofs [g0, g1, g5, g6, hm, hlt', hlt, hmj]
      refine ⟨by simpa using hcs, callK hf ?_⟩
      by_cases he : p l[j] = true
      · simp -implicitDefEqProofs [g0, g1, g5, g6, hm, hlt', hlt, hmj, he]
        refine ⟨by omega, _, ?_, j + 1, rfl, by omega, q, m, rfl, rfl, by omega, hm, by omega, ?_, ?_⟩
        · omega
        · rw [take_s hlt, List.filter_append, ht]; simp [he]
        · rw [← List.drop_drop, hd, List.drop_drop]
      · have hq2 : q < m.length := by omega
        have hqq : m[q]? = some m[q] := List.getElem?_eq_getElem hq2
        simp -implicitDefEqProofs [g0, g1, g5, g6, hm, hlt', hlt, hmj, he, hqq]
        refine ⟨by omega, by omega, by omega, _, ?_, j + 1, rfl, by omega, q + 1, m.set q l[j], ?_, by simp, by simp, by simpa using hm, by omega, ?_, ?_⟩
        · omega
        · rw [List.map_set]
        · rw [List.take_set, take_s hq2, List.set_append_right _ _ (by simp; omega)]
          simp only [List.length_take, Nat.min_eq_left (Nat.le_of_lt hq2), Nat.sub_self, List.set_cons_zero]
          rw [take_s hlt, List.filter_append, ht]; simp [he]
        · rw [List.drop_set_of_lt (by omega), ← List.drop_drop, hd, List.drop_drop]
    · simp -implicitDefEqProofs [g0, g1, g5, g6, hm, hlt]
      have hjl : j = l.length := by omega
      subst hjl
      refine ⟨by omega, by omega, ?_⟩
      rw [List.take_append_of_le_length (by simp; omega), List.take_take, Nat.min_self, ← List.map_take, ht, List.take_length]

theorem withoutQ_fn (s v : Str) : Ctr Tryz.prog 118 [.d (.str s), .d (.ref (.str v))] (.d (.bool (decide (s = v)))) := by
  refine fn_of_vwp (fun _ => false) (by kernel_rfl) Tryz.func118 (by kernel_rfl) rfl rfl (Nat.le_of_ble_eq_true rfl) (by kernel_rfl) rfl rfl ?_
  simp -implicitDefEqProofs
theorem without2_fn (old : List Str) (v : Str) (ho : old.length < 1000000) : Ctr Tryz.prog 94 [.d (strs old), .d (.str v)] (.own true 9 ((remL old v).map .str)) := by
  refine fn_of_vwp (fun i => i == 6 || i == 8) (by kernel_rfl) Tryz.func94 (by kernel_rfl) rfl rfl (Nat.le_of_ble_eq_true rfl) (by kernel_rfl) rfl rfl ?_
  have hd := deleteS_fn 118 [.ref (.str v)] rfl (fun x => decide (x = v)) old ho (fun a _ => withoutQ_fn a v)
  simp -implicitDefEqProofs
  refine callK (clone_fn old ho) ?_
  simp -implicitDefEqProofs
  refine callK hd ?_
  simp -implicitDefEqProofs [remL]

def remD (old : List Str) (v : Str) (k : Nat) : List D := (remL (old.take k) v).map .str
theorem remD_zero (old : List Str) (v : Str) : remD old v 0 = [] := rfl
theorem remD_succ {old : List Str} (v : Str) {k : Nat} (h : k < old.length) : remD old v (k + 1) = remD old v k ++ if old[k] = v then [] else [.str old[k]] := by
  rw [remD, remD, take_s h, remL, List.filter_append, List.map_append]
  congr 1
  by_cases hn : old[k] = v <;> simp [hn]
theorem remD_len (old : List Str) (v : Str) (k : Nat) : (remD old v k).length ≤ k := by
  rw [remD, List.length_map]
  exact Nat.le_trans (List.length_filter_le _ _) (by rw [List.length_take]; omega)
theorem remD_all (old : List Str) (v : Str) {k : Nat} (h : old.length ≤ k) : remD old v k = (remL old v).map .str := by rw [remD, List.take_of_length_le h]

theorem withoutR_fn (old : List Str) (v : Str) (ho : old.length < 1000000) : Ctr Tryz.prog 98 [.d (strs old), .d (.str v)] (.d (strs (remL old v))) := by
  refine fn_of_vwp (fun _ => false) (by kernel_rfl) Tryz.func98 (by kernel_rfl) rfl rfl (Nat.le_of_ble_eq_true rfl) (by kernel_rfl) rfl rfl ?_
  simp -implicitDefEqProofs [strs]
  refine loopN old.length (fun k τ => τ 0 = .d (.sl (old.map .str)) ∧ τ 1 = .d (.str v) ∧ τ 6 = .d (.int .i64 k) ∧ τ 5 = .own false 9 (remD old v k)) (by simp [remD_zero]) ?_
  rintro k τ hk ⟨h0, h1, h6, h5⟩
  by_cases hlt : k < old.length
  · have hlt' : (k : Int) < old.length := by omega
    have e1 := remD_succ v hlt
    have e2 := remD_len old v k
    generalize hx : old[k] = x at *
    by_cases hin : x = v
    · rw [if_pos hin, List.append_nil] at e1
      simp -implicitDefEqProofs [h0, h1, h6, h5, hlt, hlt', hx, hin]
      repeat refine And.intro (by omega) ?_
      exact again hlt ⟨by simp [h0], by simp [h1], by simp, by simp [h5, e1]⟩
    · rw [if_neg hin] at e1
      simp -implicitDefEqProofs [h0, h1, h6, h5, hlt, hlt', hx, hin]
      repeat refine And.intro (by omega) ?_
      exact again hlt ⟨by simp [h0], by simp [h1], by simp, by simp [e1]⟩
  · rw [remD_all old v (by omega)] at h5
    have hlt' : ¬ (k : Int) < old.length := by omega
    simp -implicitDefEqProofs [h0, h1, h6, h5, hlt, hlt', strs]
end Go.Proofs.Tz

/- Patch operations: repeats, differences, compaction: plain laws. -/
set_option linter.unusedVariables false
set_option linter.unusedSimpArgs false
namespace Go.Proofs.Tz
open Go.Vw Go.Lib

theorem names_le {m0 m1 : List Att} (h : ∀ n v, HasL m0 n v → ∃ w, HasL m1 n w) : (sortedL m0).length ≤ (sortedL m1).length := by
  have h0 := nf_sorted m0
  have := nodup_sub_len (a := (sortedL m0).map (·.1)) (b := (sortedL m1).map (·.1)) h0.names.nodup fun n hn => by
    obtain ⟨x, hx, rfl⟩ := List.mem_map.1 hn
    obtain ⟨v, hv⟩ := List.exists_mem_of_ne_nil _ (h0.ne x hx)
    obtain ⟨w, hw⟩ := h _ _ ((sorted_has m0 x.1 v).1 ⟨x, hx, rfl, hv⟩)
    obtain ⟨y, hy, e, _⟩ := (sorted_has m1 x.1 w).2 hw
    exact List.mem_map.2 ⟨y, hy, e⟩
  simpa using this
theorem set_len (l : List Att) (n : Str) (w : List Str) : (setL (sortedL l) n w).length ≤ (sortedL l).length + 1 := by
  refine Nat.le_trans (sorted_len _) ?_
  rw [List.length_append]
  exact Nat.add_le_add_right (List.length_filter_le _ _) 1
theorem miss_nil {old vs : List Str} (h : ∀ v ∈ vs, v ∈ old) : missL old vs = [] := by
  rw [missL, List.filter_eq_nil_iff]
  intro v hv
  simp [h v hv]
theorem miss_all (vs : List Str) : missL [] vs = vs := by simp [missL]

/-! ### the same again -/
theorem repeat_step {out r : List Att} {x : POp} (hx : OkOp x) (hc : x.1 ≠ oAdd → x.1 ≠ oRem → partP x = []) (h : stepP out x = (r, 0)) : stepP r x = (r, 0) := by
  obtain ⟨now, h1, h2, h3, rfl⟩ := step_ok h
  have hm : ∀ v, v ∈ getL (setL (sortedL out) (nameP x) now) (nameP x) ↔ v ∈ now := getL_set out (nameP x) now
  have hnd := now_nodup (SS_getL _ _).nodup hx.nod h1
  have hSS := (SS_getL (setL (sortedL out) (nameP x) now) (nameP x)).nodup
  have key : ∃ now2, nowP (getL (setL (sortedL out) (nameP x) now) (nameP x)) x.1 (partP x) x.2.2 = some now2 ∧ ∀ v, v ∈ now2 ↔ v ∈ now := by
    generalize getL (setL (sortedL out) (nameP x) now) (nameP x) = old2 at *
    generalize getL out (nameP x) = old at *
    unfold nowP at h1 ⊢
    by_cases c1 : x.1 = oAdd
    · rw [if_pos c1] at h1 ⊢
      simp only [Option.some.injEq] at h1
      refine ⟨_, rfl, fun v => ?_⟩
      rw [miss_nil, List.append_nil]
      · exact hm v
      · intro v hv
        rw [hm, ← h1, List.mem_append, mem_missL]
        by_cases ho : v ∈ old
        · exact .inl ho
        · exact .inr ⟨hv, ho⟩
    · rw [if_neg c1] at h1 ⊢
      by_cases c2 : x.1 = oRem
      · rw [if_pos c2] at h1 ⊢
        by_cases c3 : partP x = []
        · rw [if_pos c3] at h1 ⊢
          exact ⟨_, h1, fun v => Iff.rfl⟩
        · rw [if_neg c3] at h1 ⊢
          simp only [Option.some.injEq] at h1
          refine ⟨_, rfl, fun v => ?_⟩
          rw [mem_remL, hm, ← h1, mem_remL]
          exact ⟨fun h => h.1, fun h => ⟨h, h.2⟩⟩
      · rw [if_neg c2] at h1 ⊢
        have c3 := hc c1 c2
        rw [if_pos c3] at h1 ⊢
        exact ⟨_, h1, fun v => Iff.rfl⟩
  obtain ⟨now2, k1, k2⟩ := key
  have kn := now_nodup hSS hx.nod k1
  have hlen := nodup_len kn hnd k2
  have hset : setL (sortedL (setL (sortedL out) (nameP x) now)) (nameP x) now2 = setL (sortedL out) (nameP x) now := by
    refine (setL_norm _ _ _).symm.trans (Eq.trans (sorted_ext fun n v => ?_) (setL_norm _ _ _))
    rw [has_set, has_set, k2]
    constructor
    · rintro (⟨a, ⟨_, b⟩ | ⟨b, c⟩⟩ | ⟨a, b⟩)
      · exact .inl ⟨a, b⟩
      · exact absurd b a
      · exact .inr ⟨a, b⟩
    · rintro (⟨a, b⟩ | ⟨a, b⟩)
      · exact .inl ⟨a, .inl ⟨a, b⟩⟩
      · exact .inr ⟨a, b⟩
  rw [step_of k1 (by omega) (by rw [hset]; exact h3), hset]

theorem goP_one (out : List Att) (x : POp) : goP out [x] = stepP out x := by
  rw [goP]
  split
  · rename_i h
    rw [goP, ← h]
  · rfl
theorem repeat_ok {a : List Att} {l : List POp} {o : POp} (hl : l.length ≤ 20) (hc : o.1 ≠ oAdd → o.1 ≠ oRem → partP o = []) : applyP a (l ++ [o] ++ [o]) = applyP a (l ++ [o]) := by
  unfold applyP
  split
  · have e : checkP (l ++ [o] ++ [o]) = checkP (l ++ [o]) := by
      rw [checkP_app (by simp; omega)]
      split
      · rename_i h0
        rw [h0, checkP_zero]
        exact ⟨by simp, fun y hy => by
          rw [List.mem_singleton.1 hy]
          exact ((checkP_zero _).1 h0).2 o (by simp)⟩
      · rfl
    rw [e]
    split
    · rename_i h0
      have hok := ((checkP_zero _).1 h0).2
      rw [goP_app (l ++ [o]) [o]]
      by_cases hg : (goP (sortedL a) (l ++ [o])).2 = 0
      · rw [if_pos hg, goP_one]
        have h1 : (goP (sortedL a) l).2 = 0 := by
          by_cases h1 : (goP (sortedL a) l).2 = 0
          · exact h1
          · rw [goP_app, if_neg h1] at hg; exact hg
        have h2 : goP (sortedL a) (l ++ [o]) = stepP (goP (sortedL a) l).1 o := by rw [goP_app, if_pos h1, goP_one]
        have h3 : goP (sortedL a) (l ++ [o]) = ((goP (sortedL a) (l ++ [o])).1, 0) := by rw [← hg]
        generalize (goP (sortedL a) (l ++ [o])).1 = r at *
        rw [h3]
        exact repeat_step (hok o (by simp)) hc (h2.symm.trans h3)
      · rw [if_neg hg]
    · rfl
  · rfl

/-! ### differences -/
def diffA (b : List Att) (x : Att) : List POp := if getL b x.1 = [] then [(oRem, x.1, [])] else []
def diffB (a : List Att) (x : Att) : List POp := if getL a x.1 = [] then [(oAdd, x.1, x.2)] else if getL a x.1 = x.2 then [] else [(oRepl, x.1, x.2)]
def diffL (a b : List Att) : List POp := (sortedL a).flatMap (diffA b) ++ (sortedL b).flatMap (diffB a)
def diffP (a b : List Att) : List POp := if checkL a = 0 ∧ checkL b = 0 then diffL a b else []

theorem getL_mem {a : List Att} {x : Att} (h : x ∈ sortedL a) : getL a x.1 = x.2 := by
  refine SS_ext (SS_getL _ _) ((nf_sorted a).vals x h) fun v => ?_
  rw [mem_getL, sorted_low h, ← sorted_has]
  constructor
  · rintro ⟨y, hy, e, hv⟩
    rw [nf_inj (nf_sorted a) hy h e] at hv
    exact hv
  · intro hv; exact ⟨x, h, rfl, hv⟩
theorem diff_self (a : List Att) : diffL a a = [] := by
  have h1 : (sortedL a).flatMap (diffA a) = [] := List.flatMap_eq_nil_iff.2 fun x hx => by
    rw [diffA, getL_mem hx, if_neg ((nf_sorted a).ne x hx)]
  have h2 : (sortedL a).flatMap (diffB a) = [] := List.flatMap_eq_nil_iff.2 fun x hx => by
    rw [diffB, getL_mem hx, if_neg ((nf_sorted a).ne x hx), if_pos rfl]
  rw [diffL, h1, h2]; rfl

theorem sorted_okv {a : List Att} (h : Valid a) {x : Att} (hx : x ∈ sortedL a) : nameB x.1 = true ∧ x.2 ≠ [] ∧ x.2.length ≤ 16 ∧ (∀ v ∈ x.2, cleanB v = true) ∧ x.2.Nodup := by
  have := h.sorted.each x hx
  exact ⟨this.1, this.2.1, this.2.2.1, this.2.2.2, h.sorted.nod x hx⟩
theorem plain_name {n : Str} (h : nameB n = true) (hl : lower n = n) (o : Str) (vs : List Str) : nameP (o, n, vs) = n ∧ partP (o, n, vs) = [] := by
  simp [nameP, partP, path_plain h, hl]
theorem ok_rem {n : Str} (h : nameB n = true) : OkOp (oRem, n, []) := by
  refine ⟨by show opB oRem = true; decide, by simp [path_plain h], by simp [fitsP], by simp, by simp, by simp⟩
theorem ok_add {n : Str} {vs : List Str} (h : nameB n = true) (h1 : vs ≠ []) (h2 : vs.length ≤ 16) (h3 : ∀ v ∈ vs, cleanB v = true) (h4 : vs.Nodup) : OkOp (oAdd, n, vs) := by
  refine ⟨by show opB oAdd = true; decide, by simp [path_plain h], by simp [fitsP, partP, path_plain h, h1], h2, h3, h4⟩
theorem ok_repl {n : Str} {vs : List Str} (h : nameB n = true) (h2 : vs.length ≤ 16) (h3 : ∀ v ∈ vs, cleanB v = true) (h4 : vs.Nodup) : OkOp (oRepl, n, vs) := by
  refine ⟨by show opB oRepl = true; decide, by simp [path_plain h], ?_, h2, h3, h4⟩
  have e1 : ¬ oRepl = oAdd := by decide
  have e2 : ¬ oRepl = oRem := by decide
  simp [fitsP, partP, path_plain h, e1, e2]
theorem diff_ok {a b : List Att} (ha : Valid a) (hb : Valid b) : ∀ x ∈ diffL a b, OkOp x := by
  intro x hx
  rcases List.mem_append.1 hx with hx | hx
  · obtain ⟨y, hy, hx⟩ := List.mem_flatMap.1 hx
    have h := sorted_okv ha hy
    unfold diffA at hx
    split at hx
    · rw [List.mem_singleton.1 hx]; exact ok_rem h.1
    · simp at hx
  · obtain ⟨y, hy, hx⟩ := List.mem_flatMap.1 hx
    have h := sorted_okv hb hy
    unfold diffB at hx
    split at hx
    · rw [List.mem_singleton.1 hx]; exact ok_add h.1 h.2.1 h.2.2.1 h.2.2.2.1 h.2.2.2.2
    · split at hx
      · simp at hx
      · rw [List.mem_singleton.1 hx]; exact ok_repl h.1 h.2.2.1 h.2.2.2.1 h.2.2.2.2

/-- The removals. -/
theorem go_rem (a b : List Att) (ha : Valid a) : ∀ (xs : List Att), (∀ x ∈ xs, x ∈ sortedL a) → ∀ out, sortedL out = out → out.length ≤ 32 →
    ∃ r, goP out (xs.flatMap (diffA b)) = (r, 0) ∧ sortedL r = r ∧ r.length ≤ 32 ∧ ∀ n v, HasL r n v ↔ HasL out n v ∧ ∀ x ∈ xs, getL b x.1 = [] → n ≠ x.1
  | [], _, out, hs, hl => ⟨out, rfl, hs, hl, fun n v => by simp⟩
  | x :: xs, hx, out, hs, hl => by
    have h := sorted_okv ha (hx x (by simp))
    have hlow := sorted_low (hx x (by simp))
    by_cases hb : getL b x.1 = []
    · obtain ⟨p1, p2⟩ := plain_name h.1 hlow oRem []
      have hn : nowP (getL out (nameP (oRem, x.1, []))) oRem (partP (oRem, x.1, [])) [] = some [] := by
        rw [p2]
        have e1 : ¬ oRem = oAdd := by decide
        simp [nowP, e1]
      have hle : (setL (sortedL out) (nameP (oRem, x.1, [])) []).length ≤ 32 := by
        rw [← setL_norm]
        refine Nat.le_trans (names_le fun n v hv => ?_) (Nat.le_trans (Nat.le_of_eq (by rw [hs])) hl)
        rw [has_set] at hv
        rcases hv with ⟨_, hv⟩ | ⟨_, hv⟩
        · exact ⟨v, hv⟩
        · simp at hv
      have hst := step_of (x := (oRem, x.1, [])) hn (by simp) hle
      obtain ⟨r, g1, g2, g3, g4⟩ := go_rem a b ha xs (fun y hy => hx y (by simp [hy])) _ (setL_norm _ _ _) hle
      refine ⟨r, ?_, g2, g3, fun n v => ?_⟩
      · rw [List.flatMap_cons, diffA, if_pos hb, List.singleton_append, goP, hst]
        simpa using g1
      · rw [g4, has_set, p1]
        simp only [List.mem_cons, forall_eq_or_imp, List.not_mem_nil, and_false, or_false]
        constructor
        · rintro ⟨⟨h1, h2⟩, h3⟩; exact ⟨h2, fun _ => h1, h3⟩
        · rintro ⟨h1, h2, h3⟩; exact ⟨⟨h2 hb, h1⟩, h3⟩
    · obtain ⟨r, g1, g2, g3, g4⟩ := go_rem a b ha xs (fun y hy => hx y (by simp [hy])) out hs hl
      refine ⟨r, ?_, g2, g3, fun n v => ?_⟩
      · rw [List.flatMap_cons, diffA, if_neg hb, List.nil_append]; exact g1
      · rw [g4]
        simp only [List.mem_cons, forall_eq_or_imp]
        constructor
        · rintro ⟨h1, h2⟩; exact ⟨h1, fun h => absurd h hb, h2⟩
        · rintro ⟨h1, _, h2⟩; exact ⟨h1, h2⟩

/-- The additions and replacements. -/
theorem go_set (a b : List Att) (ha : Valid a) (hb : Valid b) : ∀ (ys done : List Att), done ++ ys = sortedL b → ∀ out, sortedL out = out → (∀ n v, HasL out n v ↔ (HasL b n v ∧ n ∈ done.map (·.1)) ∨ (HasL a n v ∧ n ∈ ys.map (·.1))) →
    goP out (ys.flatMap (diffB a)) = (sortedL b, 0)
  | [], done, hd, out, hs, hi => by
    simp only [List.flatMap_nil, goP, Prod.mk.injEq, and_true]
    rw [← hs]
    refine sorted_ext fun n v => ?_
    rw [hi]
    simp only [List.map_nil, List.not_mem_nil, and_false, or_false]
    constructor
    · exact fun h => h.1
    · intro h
      refine ⟨h, ?_⟩
      obtain ⟨y, hy, e, _⟩ := (sorted_has b n v).2 h
      rw [List.append_nil] at hd
      exact List.mem_map.2 ⟨y, by rw [hd]; exact hy, e⟩
  | y :: ys, done, hd, out, hs, hi => by
    have hy : y ∈ sortedL b := by rw [← hd]; simp
    have h := sorted_okv hb hy
    have hlow := sorted_low hy
    have hnd := (nf_sorted b).names.nodup
    rw [← hd, List.map_append, List.map_cons, List.nodup_append] at hnd
    obtain ⟨_, n2, n3⟩ := hnd
    have hyd : y.1 ∉ done.map (·.1) := fun hm => n3 _ hm _ (by simp) rfl
    have hyr : y.1 ∉ ys.map (·.1) := (List.nodup_cons.1 n2).1
    have hby : ∀ v, HasL b y.1 v ↔ v ∈ y.2 := fun v => by
      rw [← getL_mem hy, mem_getL, hlow]
    have hnext : ∀ (out' : List Att), (∀ n v, HasL out' n v ↔ (n ≠ y.1 ∧ HasL out n v) ∨ (n = y.1 ∧ v ∈ y.2)) → ∀ n v, HasL out' n v ↔ (HasL b n v ∧ n ∈ (done ++ [y]).map (·.1)) ∨ (HasL a n v ∧ n ∈ ys.map (·.1)) := by
      intro out' ho n v
      rw [ho, hi]
      simp only [List.map_append, List.map_cons, List.map_nil, List.mem_append, List.mem_cons, List.not_mem_nil, or_false]
      by_cases hn : n = y.1
      · subst hn
        simp only [ne_eq, not_true_eq_false, false_and, true_and, false_or, or_true, and_true, hby]
        exact ⟨.inl, fun h => h.elim (fun h => h) fun h => absurd h.2 hyr⟩
      · simp only [ne_eq, hn, not_false_eq_true, true_and, false_and, or_false, false_or]
    have hold : getL out y.1 = getL a y.1 := getL_ext fun v => by
      rw [hlow, hi]
      simp only [List.map_cons, List.mem_cons, true_or, and_true, hyd, and_false, false_or]
    have hd' : (done ++ [y]) ++ ys = sortedL b := by rw [← hd]; simp
    have hle : ∀ (o : Str), (setL (sortedL out) (nameP (o, y.1, y.2)) y.2).length ≤ 32 := fun o => by
      obtain ⟨p1, p2⟩ := plain_name h.1 hlow o y.2
      rw [← setL_norm]
      refine Nat.le_trans (names_le (m1 := b) fun n v hv => ?_) hb.sorted.len
      rw [has_set, p1] at hv
      have := (hnext (setL (sortedL out) y.1 y.2) (fun n v => by have := has_set out (o, y.1, y.2) y.2 n v; rw [p1] at this; exact this) n v).1 (by have := (has_set out (o, y.1, y.2) y.2 n v).2 (by rw [p1]; exact hv); rw [p1] at this; exact this)
      rcases this with ⟨h1, _⟩ | ⟨h1, h2⟩
      · exact ⟨v, h1⟩
      · obtain ⟨z, hz, e⟩ := List.mem_map.1 h2
        have hzb : z ∈ sortedL b := by rw [← hd]; simp [hz]
        obtain ⟨w, hw⟩ := List.exists_mem_of_ne_nil _ ((nf_sorted b).ne z hzb)
        exact ⟨w, (sorted_has b n w).1 ⟨z, hzb, e, hw⟩⟩
    have fin : ∀ (o : Str), nowP (getL out y.1) o [] y.2 = some y.2 → diffB a y = [(o, y.1, y.2)] → goP out ((y :: ys).flatMap (diffB a)) = (sortedL b, 0) := by
      intro o hn hdb
      obtain ⟨p1, p2⟩ := plain_name h.1 hlow o y.2
      have hst := step_of (x := (o, y.1, y.2)) (out := out) (now := y.2) (by rw [p1, p2]; exact hn) h.2.2.1 (hle o)
      rw [List.flatMap_cons, hdb, List.singleton_append, goP, hst]
      simp only [if_true]
      refine go_set a b ha hb ys (done ++ [y]) hd' _ (setL_norm _ _ _) (hnext _ fun n v => ?_)
      have := has_set out (o, y.1, y.2) y.2 n v
      rw [p1] at this ⊢
      exact this
    by_cases c1 : getL a y.1 = []
    · refine fin oAdd ?_ (by rw [diffB, if_pos c1])
      rw [hold, c1]
      simp [nowP, miss_all]
    · by_cases c2 : getL a y.1 = y.2
      · have hdb : diffB a y = [] := by rw [diffB, if_neg c1, if_pos c2]
        rw [List.flatMap_cons, hdb, List.nil_append]
        refine go_set a b ha hb ys (done ++ [y]) hd' out hs (hnext out fun n v => ?_)
        by_cases hn : n = y.1
        · subst hn
          simp only [ne_eq, not_true_eq_false, false_and, true_and, false_or]
          rw [← c2, ← hold, mem_getL, hlow]
        · simp [hn]
      · refine fin oRepl ?_ (by rw [diffB, if_neg c1, if_neg c2])
        have e1 : ¬ oRepl = oAdd := by decide
        have e2 : ¬ oRepl = oRem := by decide
        simp [nowP, e1, e2]

theorem diff_apply {a b : List Att} (ha : Valid a) (hb : Valid b) (hl : (diffL a b).length ≤ 32) : applyP a (diffL a b) = (sortedL b, 0) := by
  have e1 : checkL a = 0 := (check_iff a).2 ha
  have e2 : checkP (diffL a b) = 0 := (checkP_zero _).2 ⟨hl, diff_ok ha hb⟩
  rw [applyP, if_pos e1, if_pos e2, diffL, goP_app]
  obtain ⟨r, g1, g2, g3, g4⟩ := go_rem a b ha (sortedL a) (fun _ h => h) (sortedL a) (sorted_idem a) ha.sorted.len
  rw [g1, if_pos rfl]
  refine go_set a b ha hb (sortedL b) [] rfl r g2 fun n v => ?_
  rw [g4, hasL_sorted]
  simp only [List.map_nil, List.not_mem_nil, and_false, false_or]
  constructor
  · rintro ⟨h1, h2⟩
    refine ⟨h1, ?_⟩
    obtain ⟨x, hx, e, hv⟩ := (sorted_has a n v).2 h1
    have hne : getL b x.1 ≠ [] := fun h => h2 x hx h e.symm
    obtain ⟨w, hw⟩ := List.exists_mem_of_ne_nil _ hne
    rw [mem_getL, sorted_low hx, e, ← sorted_has] at hw
    obtain ⟨y, hy, e2, _⟩ := hw
    exact List.mem_map.2 ⟨y, hy, e2⟩
  · rintro ⟨h1, h2⟩
    refine ⟨h1, fun x hx hn e => ?_⟩
    obtain ⟨y, hy, e2⟩ := List.mem_map.1 h2
    have := getL_mem hy
    rw [e2, e, hn] at this
    exact (nf_sorted b).ne y hy this.symm

/-! ### compaction -/
def wholeP (x : POp) : Bool := decide (partP x = []) && !decide (x.1 = oAdd)
def goneP (x : POp) : Bool := decide (x.1 = oAdd) || (decide (x.1 = oRepl) && decide (x.2.2 ≠ []))
def laterP (n : Str) (l : List POp) : Bool := l.any fun y => decide (nameP y = n) && wholeP y
def compL : List POp → List POp
  | [] => []
  | x :: l => if goneP x && laterP (nameP x) l then compL l else x :: compL l
def compP (l : List POp) : List POp := if checkP l = 0 then compL l else l

theorem comp_sub : ∀ (l : List POp), (compL l).Sublist l
  | [] => .slnil
  | x :: l => by
    rw [compL]
    split
    · exact (comp_sub l).cons x
    · exact (comp_sub l).cons_cons x
theorem later_sub {n : Str} {l m : List POp} (h : l.Sublist m) (hl : laterP n l = true) : laterP n m = true := by
  obtain ⟨y, hy, h2⟩ := List.any_eq_true.1 hl
  exact List.any_eq_true.2 ⟨y, h.subset hy, h2⟩
theorem comp_comp : ∀ (l : List POp), compL (compL l) = compL l
  | [] => rfl
  | x :: l => by
    rw [compL]
    split
    · exact comp_comp l
    · rename_i h
      rw [compL, if_neg, comp_comp l]
      intro h2
      simp only [Bool.and_eq_true] at h h2
      exact h ⟨h2.1, later_sub (comp_sub l) h2.2⟩
theorem comp_check {l : List POp} (h : checkP l = 0) : checkP (compL l) = 0 := by
  rw [checkP_zero] at h ⊢
  exact ⟨Nat.le_trans (comp_sub l).length_le h.1, fun x hx => h.2 x ((comp_sub l).subset hx)⟩
theorem compP_idem (l : List POp) : compP (compP l) = compP l := by
  unfold compP
  split
  · rename_i h
    rw [if_pos (comp_check h), comp_comp]
  · rfl

theorem getL_step_other {out : List Att} {x : POp} {now : List Str} {n : Str} (h : lower n ≠ nameP x) : getL (setL (sortedL out) (nameP x) now) n = getL out n :=
  getL_ext fun v => by rw [has_set]; simp [h]
theorem getL_step_same {s t : List Att} {x : POp} {now : List Str} {n : Str} (h : lower n = nameP x) : getL (setL (sortedL s) (nameP x) now) n = getL (setL (sortedL t) (nameP x) now) n :=
  getL_ext fun v => by rw [has_set, has_set]; simp [h]

theorem comp_go : ∀ (l : List POp), (∀ x ∈ l, OkOp x) → ∀ (s t r : List Att), sortedL s = s → sortedL t = t → t.length + l.length ≤ 32 → (∀ n, (getL t n).length ≤ 16) →
    (∀ n, laterP (lower n) l = false → getL s n = getL t n) → goP s l = (r, 0) → goP t (compL l) = (r, 0)
  | [], _, s, t, r, hs, ht, _, _, hsim, h => by
    simp only [goP, Prod.mk.injEq, and_true] at h
    subst h
    simp only [compL, goP, Prod.mk.injEq, and_true]
    rw [← hs, ← ht]
    refine sorted_ext fun n v => ?_
    by_cases hn : lower n = n
    · have := hsim n rfl
      rw [← hn, ← mem_getL, ← mem_getL, this]
    · constructor
      · rintro ⟨x, _, e, _⟩; exact absurd (by rw [← e, lower_lower]) hn
      · rintro ⟨x, _, e, _⟩; exact absurd (by rw [← e, lower_lower]) hn
  | x :: l, hok, s, t, r, hs, ht, hlen, h16, hsim, h => by
    have hx := hok x (by simp)
    have hok' : ∀ y ∈ l, OkOp y := fun y hy => hok y (by simp [hy])
    rw [goP] at h
    have hc : (stepP s x).2 = 0 := by
      by_cases hc : (stepP s x).2 = 0
      · exact hc
      · rw [if_neg hc] at h; rw [h]
    rw [if_pos hc] at h
    obtain ⟨now, k1, k2, k3, k4⟩ := step_ok (show stepP s x = ((stepP s x).1, 0) by rw [← hc])
    have hs' : sortedL (stepP s x).1 = (stepP s x).1 := by rw [k4]; exact setL_norm _ _ _
    simp only [List.length_cons] at hlen
    rw [compL]
    split
    · rename_i hg
      simp only [Bool.and_eq_true] at hg
      refine comp_go l hok' (stepP s x).1 t r hs' ht (by omega) h16 (fun n hn => ?_) h
      have hne : lower n ≠ nameP x := fun e => by rw [e, hg.2] at hn; cases hn
      rw [k4, getL_step_other hne]
      refine hsim n ?_
      simp only [laterP, List.any_cons] at hn ⊢
      rw [hn, Bool.or_false]
      simp
      intro e
      exact absurd e.symm hne
    · rename_i hg
      simp only [Bool.and_eq_true, not_and] at hg
      -- what the step on t computes
      have key : ∃ now2, nowP (getL t (nameP x)) x.1 (partP x) x.2.2 = some now2 ∧ now2.length ≤ 16 ∧ (setL (sortedL t) (nameP x) now2).length + l.length ≤ 32 ∧ (laterP (nameP x) l = false → now2 = now) := by
        by_cases hlat : laterP (nameP x) l = true
        · have hng : goneP x = false := by
            cases hgx : goneP x with
            | false => rfl
            | true => exact absurd hlat (by simpa using hg hgx)
          simp only [goneP, Bool.or_eq_false_iff, decide_eq_false_iff_not, Bool.and_eq_false_iff] at hng
          obtain ⟨c1, c2⟩ := hng
          have hop := hx.op
          simp only [opB, Bool.or_eq_true, decide_eq_true_eq] at hop
          have hshort : ∀ now2 : List Str, (∀ v ∈ now2, v ∈ getL t (nameP x)) → (setL (sortedL t) (nameP x) now2).length + l.length ≤ 32 := fun now2 hsub => by
            have : (setL (sortedL t) (nameP x) now2).length ≤ (sortedL t).length := by
              rw [← setL_norm]
              refine names_le fun n v hv => ?_
              rw [has_set] at hv
              rcases hv with ⟨_, hv⟩ | ⟨rfl, hv⟩
              · exact ⟨v, hv⟩
              · have := (mem_getL _ _ _).1 (hsub v hv)
                rw [nameP_low] at this
                exact ⟨v, this⟩
            rw [ht] at this
            rw [ht]
            omega
          by_cases c3 : x.1 = oRem
          · by_cases c4 : partP x = []
            · exact ⟨[], by rw [nowP, if_neg c1, if_pos c3, if_pos c4], by simp, hshort [] (by simp), fun h => by rw [hlat] at h; cases h⟩
            · refine ⟨remL (getL t (nameP x)) (partP x), by rw [nowP, if_neg c1, if_pos c3, if_neg c4], ?_, hshort _ (fun v hv => (mem_remL.1 hv).1), fun h => by rw [hlat] at h; cases h⟩
              exact Nat.le_trans (List.length_filter_le _ _) (h16 _)
          · have c5 : x.1 = oRepl := by
              rcases hop with (h | h) | h
              · exact absurd h c1
              · exact absurd h c3
              · exact h
            have c6 : x.2.2 = [] := by
              rcases c2 with h | h
              · exact absurd c5 h
              · simpa using h
            have c7 : partP x = [] := by
              have hf := hx.fit
              rw [fitsP, if_neg c1, if_neg c3, c6] at hf
              simpa using hf
            exact ⟨[], by rw [nowP, if_neg c1, if_neg c3, if_pos c7, c6], by simp, hshort [] (by simp), fun h => by rw [hlat] at h; cases h⟩
        · have hlat' : laterP (nameP x) l = false := by simpa using hlat
          refine ⟨now, ?_, k2, ?_, fun _ => rfl⟩
          · by_cases hw : wholeP x = true
            · simp only [wholeP, Bool.and_eq_true, decide_eq_true_eq, Bool.not_eq_true', decide_eq_false_iff_not] at hw
              rw [nowP, if_neg hw.2] at k1 ⊢
              split at k1
              · rename_i h1; rw [if_pos h1]; rw [if_pos hw.1] at k1 ⊢; exact k1
              · rename_i h1; rw [if_neg h1]; rw [if_pos hw.1] at k1 ⊢; exact k1
            · have hw' : wholeP x = false := by simpa using hw
              have := hsim (nameP x) (by
                rw [nameP_low]
                simp only [laterP, List.any_cons] at hlat' ⊢
                rw [hlat', hw']; simp)
              rw [← this]; exact k1
          · have := set_len t (nameP x) now
            rw [ht] at this ⊢
            omega
      obtain ⟨now2, j1, j2, j3, j4⟩ := key
      have hst := step_of j1 j2 (by omega)
      rw [goP, hst]
      simp only [if_true]
      refine comp_go l hok' (stepP s x).1 _ r hs' (setL_norm _ _ _) j3 (fun n => ?_) (fun n hn => ?_) h
      · by_cases hn : lower n = nameP x
        · have e : getL (setL (sortedL t) (nameP x) now2) n = getL (setL (sortedL t) (nameP x) now2) (nameP x) := getL_ext fun v => by rw [hn, nameP_low]
          rw [e, getL_set_len t (nameP x) (now_nodup (SS_getL _ _).nodup hx.nod j1)]
          exact j2
        · rw [getL_step_other hn]; exact h16 n
      · rw [k4]
        by_cases hne : lower n = nameP x
        · rw [hne] at hn
          rw [j4 hn]
          exact getL_step_same hne
        · rw [getL_step_other hne, getL_step_other hne]
          refine hsim n ?_
          simp only [laterP, List.any_cons] at hn ⊢
          rw [hn, Bool.or_false]
          simp
          intro e
          exact absurd e.symm hne

theorem comp_apply {a b : List Att} {l : List POp} (hl : a.length + l.length ≤ 32) (h : applyP a l = (b, 0)) : applyP a (compP l) = (b, 0) := by
  have h0 : (applyP a l).2 = 0 := by rw [h]
  obtain ⟨h1, h2, h3⟩ := applyP_ok h0
  rw [h] at h3
  have hsl := sorted_len a
  have := comp_go l ((checkP_zero l).1 h2).2 (sortedL a) (sortedL a) b (sorted_idem a) (sorted_idem a) (by omega) (fun n => by
    have : getL (sortedL a) n = getL a n := getL_ext fun v => hasL_sorted a (lower n) v
    rw [this]; exact h1.get n) (fun _ _ => rfl) h3
  rw [compP, if_pos h2, applyP, if_pos ((check_iff a).2 h1), if_pos (comp_check h2)]
  exact this
end Go.Proofs.Tz

/- Patch operations: one operation, in both. -/
set_option maxRecDepth 100000
set_option maxHeartbeats 4000000
set_option linter.unusedVariables false
set_option linter.unusedSimpArgs false
namespace Go.Proofs.Tz
open Go.Vw Go.RowKit Go.Proofs

theorem total_len {a : List Att} {m : Nat} (h : ∀ x ∈ a, x.2.length ≤ m) : total a ≤ a.length * m := by
  induction a with
  | nil => simp [total]
  | cons x a ih =>
    have h1 := h x (by simp)
    have h2 := ih (fun y hy => h y (by simp [hy]))
    simp only [total, List.map_cons, List.sum_cons, List.length_cons] at h2 ⊢
    rw [Nat.add_mul, Nat.one_mul]
    omega
theorem name_len {n : Str} (h : nameB n = true) : List.length n ≤ 64 := by
  simp only [nameB, Bool.and_eq_true, decide_eq_true_eq] at h
  exact h.1.1.2
theorem clean_len {v : Str} (h : cleanB v = true) : List.length v ≤ 256 := by
  simp only [cleanB, Bool.and_eq_true, decide_eq_true_eq] at h
  exact h.1.1.1.2
theorem valid_fit {a : List Att} (h : Valid a) : Fit2 a ∧ total a ≤ 512 ∧ FitV a := by
  have ht := total_len (m := 16) (fun x hx => (h.each x hx).2.2.1)
  have : a.length * 16 ≤ 32 * 16 := Nat.mul_le_mul_right _ h.len
  have hl := h.len
  exact ⟨⟨⟨by omega, fun x hx => ⟨by have := name_len (h.each x hx).1; omega, by have := (h.each x hx).2.2.1; omega⟩⟩, by omega⟩, by omega, fun x hx v hv => by have := clean_len ((h.each x hx).2.2.2 v hv); omega⟩

theorem setQ2_fn (a : Att) (n : Str) : Ctr Tryz.prog 119 [.d (att a), .d (.ref (.str n))] (.d (.bool (decide (a.1 = n)))) := by
  refine fn_of_vwp (fun _ => false) (by kernel_rfl) Tryz.func119 (by kernel_rfl) rfl rfl (Nat.le_of_ble_eq_true rfl) (by kernel_rfl) rfl rfl ?_
  simp -implicitDefEqProofs [att, strs]

theorem total_filter (p : Att → Bool) : ∀ (l : List Att), total (l.filter p) ≤ total l
  | [] => by simp
  | x :: l => by
    have ih := total_filter p l
    rw [List.filter_cons]
    split
    · simp only [total, List.map_cons, List.sum_cons] at ih ⊢; omega
    · simp only [total, List.map_cons, List.sum_cons] at ih ⊢; omega
/-- What is small enough to be set. -/
theorem set_fit {a : List Att} {n : Str} {vs : List Str} (h : Valid a) (hn : List.length n < 1000000) (hv : vs.length ≤ 1000) (p : Att → Bool) : Fit2 ((sortedL a).filter p ++ [(n, vs)]) := by
  obtain ⟨h1, h2, _⟩ := valid_fit h.sorted
  have hs : ((sortedL a).filter p).Sublist (sortedL a) := List.filter_sublist
  have hl := hs.length_le
  have hlen := h.sorted.len
  have ht : total ((sortedL a).filter p) ≤ total (sortedL a) := total_filter p _
  refine ⟨⟨by simp; omega, fun x hx => ?_⟩, ?_⟩
  · rcases List.mem_append.1 hx with hx | hx
    · exact h1.1.2 x (hs.subset hx)
    · rw [List.mem_singleton.1 hx]; exact ⟨hn, by simp only; omega⟩
  · have : total ((sortedL a).filter p ++ [(n, vs)]) = total ((sortedL a).filter p) + vs.length := by simp [total]
    omega

theorem pset_fn (a : List Att) (n : Str) (vs : List Str) (h : Valid a) (hl : lower n = n) (hn : List.length n < 1000000) (hv : vs.length ≤ 1000) : Ctr Tryz.prog 95 [.d (atts a), .d (.str n), .d (strs vs)] (.d (atts (setL (sortedL a) n vs))) := by
  refine fn_of_vwp (fun i => i == 9) (by kernel_rfl) Tryz.func95 (by kernel_rfl) rfl rfl (Nat.le_of_ble_eq_true rfl) (by kernel_rfl) rfl rfl ?_
  obtain ⟨f1, f2, f3⟩ := valid_fit h
  obtain ⟨g1, g2, g3⟩ := valid_fit h.sorted
  have hlen := h.sorted.len
  have hS := sorted_fn a f1
  have hD := deleteA_fn 119 [.ref (.str n)] rfl (fun x => decide (x.1 = n)) (sortedL a) g1.1.1 (fun x _ => setQ2_fn x n)
  have hfit := set_fit (n := n) (vs := vs) h hn hv (fun x => !decide (x.1 = n))
  have hS2 := sorted_fn _ hfit
  have hset : setL (sortedL a) n vs = sortedL (((sortedL a).filter fun x => !decide (x.1 = n)) ++ [(n, vs)]) := by rw [setL, hl]
  have hfl : ((sortedL a).filter fun x => !decide (x.1 = n)).length ≤ 32 := Nat.le_trans (List.length_filter_le _ _) hlen
  rw [hset]
  generalize (sortedL a).filter (fun x => !decide (x.1 = n)) = fl at *
  simp only [atts, att, strs, List.map_append, List.map_cons, List.map_nil] at hS2
  simp -implicitDefEqProofs
  refine callK hS ?_
  simp -implicitDefEqProofs
  refine callK hD ?_
  simp -implicitDefEqProofs [strs]
  repeat refine And.intro (by omega) ?_
  refine callK hS2 ?_
  simp -implicitDefEqProofs [atts]

/-- The reference's rest. -/
def filN (n : Str) (l : List Att) (k : Nat) : List D := ((l.take k).filter fun x => !decide (lower x.1 = n)).map att
theorem filN_zero (n : Str) (l : List Att) : filN n l 0 = [] := rfl
theorem filN_succ (n : Str) {l : List Att} {k : Nat} (h : k < l.length) : filN n l (k + 1) = filN n l k ++ if lower l[k].1 = n then [] else [att l[k]] := by
  rw [filN, filN, take_s h, List.filter_append, List.map_append]
  congr 1
  by_cases hn : lower l[k].1 = n <;> simp [hn]
theorem filN_len (n : Str) (l : List Att) (k : Nat) : (filN n l k).length ≤ k := by
  rw [filN, List.length_map]
  exact Nat.le_trans (List.length_filter_le _ _) (by rw [List.length_take]; omega)
theorem filN_w (n : Str) (l : List Att) (k : Nat) : ∀ u ∈ filN n l k, width u = 2 := fun u hu => by
  obtain ⟨y, _, rfl⟩ := List.mem_map.1 hu
  rfl
theorem filN_all (n : Str) (l : List Att) {k : Nat} (h : l.length ≤ k) : filN n l k = (l.filter fun x => !decide (lower x.1 = n)).map att := by rw [filN, List.take_of_length_le h]
theorem setR_eq {a : List Att} {n : Str} {vs : List Str} (hs : sortedL a = a) (hl : lower n = n) (r : List Att) (hr : r = (a.filter fun x => !decide (lower x.1 = n)) ++ if vs = [] then [] else [(n, vs)]) : sortedL r = setL (sortedL a) n vs := by
  have e : (a.filter fun x => !decide (lower x.1 = n)) = (sortedL a).filter fun x => !decide (x.1 = lower n) := by
    rw [hs]
    refine List.filter_congr fun x hx => ?_
    rw [sorted_low (l := a) (by rw [hs]; exact hx), hl]
  rw [hr, setL, e]
  refine sorted_ext fun m v => ?_
  rw [hasL_app, hasL_app, hl]
  by_cases hv : vs = []
  · subst hv; simp [HasL]
  · rw [if_neg hv]
theorem psetR_fn (a : List Att) (n : Str) (vs : List Str) (h : Valid a) (hs : sortedL a = a) (hl : lower n = n) (hn : List.length n < 1000000) (hv : vs.length ≤ 1000) : Ctr Tryz.prog 51 [.d (atts a), .d (.str n), .d (strs vs)] (.d (atts (setL (sortedL a) n vs))) := by
  refine fn_of_vwp (fun _ => false) (by kernel_rfl) Tryz.func51 (by kernel_rfl) rfl rfl (Nat.le_of_ble_eq_true rfl) (by kernel_rfl) rfl rfl ?_
  obtain ⟨f1, f2, f3⟩ := valid_fit h
  have hlen := h.len
  simp -implicitDefEqProofs [atts, strs]
  refine loopN a.length (fun k τ => τ 0 = .d (.sl (a.map att)) ∧ τ 1 = .d (.str n) ∧ τ 2 = .d (.sl (vs.map .str)) ∧ τ 8 = .d (.int .i64 k) ∧ τ 7 = .own false 52 (filN n a k)) (by simp [filN_zero]) ?_
  rintro k τ hk ⟨h0, h1, h2, h8, h7⟩
  have e2 := filN_len n a k
  have e3 := filN_w n a k
  by_cases hlt : k < a.length
  · have hlt' : (k : Int) < a.length := by omega
    have e1 := filN_succ n hlt
    have g1 := (f1.1.2 a[k] (List.getElem_mem hlt)).1
    generalize hx : a[k] = x at *
    obtain ⟨xn, xv⟩ := x
    simp only at g1 e1
    simp -implicitDefEqProofs [h0, h1, h2, h8, h7, hlt, hlt', hx, att, strs]
    refine callK (lower_fn xn g1) ?_
    by_cases hin : lower xn = n
    · rw [if_pos hin, List.append_nil] at e1
      simp -implicitDefEqProofs [h0, h1, h2, h8, h7, hlt, hlt', hx, att, strs, hin]
      repeat refine And.intro (by omega) ?_
      exact again hlt ⟨by simp [h0], by simp [h1], by simp [h2], by simp, by simp [h7, e1]⟩
    · rw [if_neg hin] at e1
      simp -implicitDefEqProofs [h0, h1, h2, h8, h7, hlt, hlt', hx, att, strs, hin]
      repeat refine And.intro (by omega) ?_
      exact again hlt ⟨by simp [h0], by simp [h1], by simp [h2], by simp, by simp [e1, att, strs]⟩
  · rw [filN_all n a (by omega)] at h7
    have hlt' : ¬ (k : Int) < a.length := by omega
    have hs1 := setR_eq (vs := vs) hs hl _ rfl
    have hfl : (a.filter fun x => !decide (lower x.1 = n)).length ≤ 32 := Nat.le_trans (List.length_filter_le _ _) hlen
    have hfit := set_fit (n := n) (vs := vs) h hn hv (fun x => !decide (lower x.1 = n))
    rw [hs] at hfit
    by_cases hv0 : vs = []
    · subst hv0
      rw [if_pos rfl, List.append_nil] at hs1
      have hfit2 : Fit2 (a.filter fun x => !decide (lower x.1 = n)) := by
        obtain ⟨⟨q1, q2⟩, q3⟩ := hfit
        refine ⟨⟨by omega, fun x hx => q2 x (by simp [hx])⟩, ?_⟩
        simpa [total] using q3
      have hS := sortedR_fn _ hfit2
      rw [hs1] at hS
      simp only [atts] at hS
      simp -implicitDefEqProofs [h0, h1, h2, h8, h7, hlt, hlt']
      refine callK hS ?_
      simp -implicitDefEqProofs
    · rw [if_neg hv0] at hs1
      have hS := sortedR_fn _ hfit
      rw [hs1] at hS
      simp only [atts, att, strs, List.map_append, List.map_cons, List.map_nil] at hS
      have hvl : 0 < vs.length := List.length_pos_iff.2 hv0
      have hvl' : (0 : Int) < vs.length := by omega
      generalize (a.filter fun x => !decide (lower x.1 = n)) = fl at *
      simp -implicitDefEqProofs [h0, h1, h2, h8, h7, hlt, hlt', hvl, hvl', hv0]
      repeat refine And.intro (by omega) ?_
      refine callK hS ?_
      simp -implicitDefEqProofs [att, strs]

theorem path_len {s : Str} : List.length (pathP s).1 ≤ List.length s ∧ List.length (pathP s).2.1 ≤ List.length s := by
  have hc : List.length (cutB s 91).1 ≤ List.length s ∧ List.length (cutB s 91).2.1 ≤ List.length s := by
    unfold cutB
    split
    · simp
      omega
    · simp
  unfold pathP
  generalize cutB s 91 = c at *
  obtain ⟨n, v, b⟩ := c
  simp only at hc ⊢
  split
  · simp
  · split
    · exact ⟨hc.1, by simp⟩
    · unfold pathV
      split
      · refine ⟨hc.1, ?_⟩
        simp only [List.length_dropLast]
        omega
      · simp

theorem stepP_def (out : List Att) (x : POp) (now : List Str) (h : nowP (getL out (nameP x)) x.1 (partP x) x.2.2 = some now) : stepP out x = if 16 < now.length ∨ 32 < (setL (sortedL out) (nameP x) now).length then ([], 3) else (setL (sortedL out) (nameP x) now, 0) := by
  rw [stepP, h]

theorem pstep_fn (out : List Att) (x : POp) (hv : Valid out) (hx : OkOp x) (hp : List.length x.2.1 < 1000000) : Ctr Tryz.prog 46 [.d (atts out), .d (popD x)] (.tup [.d (atts (stepP out x).1), .d (.int .i64 (stepP out x).2)]) := by
  obtain ⟨f1, f2, f3⟩ := valid_fit hv
  have hol := hv.get (nameP x)
  have hvl := hx.len
  have hnl : List.length (nameP x) < 1000000 := by have := (path_len (s := x.2.1)).1; rw [nameP, lower_len]; omega
  have hget := get_fn out (nameP x) f1 hnl
  have hpath := path_fn x.2.1 hp
  have hlow := foldLower_fn (pathP x.2.1).1 (by have := (path_len (s := x.2.1)).1; omega)
  have hsome := stepP_def out x
  have hnone : nowP (getL out (nameP x)) x.1 (partP x) x.2.2 = none → stepP out x = ([], 6) := fun h => by rw [stepP, h]
  have hset := fun now (h : now.length ≤ 1000) => pset_fn out (nameP x) now hv (nameP_low x) hnl h
  have hop := opB_cases hx.op
  have hmc := missing_fn (getL out (nameP x)) x.2.2 (by omega) (by omega)
  have hcl := clone_fn (getL out (nameP x)) (by omega)
  have hwo := without2_fn (getL out (nameP x)) (partP x) (by omega)
  have hrl : (remL (getL out (nameP x)) (partP x)).length ≤ 16 := Nat.le_trans (List.length_filter_le _ _) hol
  have hmw := missing_fn (remL (getL out (nameP x)) (partP x)) x.2.2 (by omega) (by omega)
  have hct := contains_fn (getL out (nameP x)) (partP x) (by omega)
  have hml : (missL (getL out (nameP x)) x.2.2).length ≤ 16 := Nat.le_trans (List.length_filter_le _ _) hvl
  have hmwl : (missL (remL (getL out (nameP x)) (partP x)) x.2.2).length ≤ 16 := Nat.le_trans (List.length_filter_le _ _) hvl
  have en : lower (pathP x.2.1).1 = nameP x := rfl
  have ep : (pathP x.2.1).2.1 = partP x := rfl
  rw [en] at hlow
  rw [ep] at hpath
  obtain ⟨R, hR⟩ : ∃ R, stepP out x = R := ⟨_, rfl⟩
  rw [hR] at hsome hnone ⊢
  clear hR en ep
  generalize hN : nameP x = n at *
  generalize hP : partP x = pv at *
  obtain ⟨o, p, vs⟩ := x
  simp only at hsome hnone hpath hlow hop hmc hmw hvl hml hmwl
  generalize getL out n = old at *
  generalize (pathP p).1 = pn at *
  generalize (pathP p).2.2 = pe at *
  generalize hM : missL old vs = miss at *
  generalize hW : remL old pv = rem at *
  generalize hMW : missL rem vs = missw at *
  clear hN hP hx f1 f2 f3 hp
  simp only [atts, strs] at hget hmc hcl hwo hmw hct hset
  refine fn_of_vwpN (rv := .tmp 4) (rs := [.tmp 5]) (r := .d (atts R.1)) (ys := [.d (.int .i64 R.2)]) (fun _ => false) (by kernel_rfl) Tryz.func46 (by kernel_rfl) rfl rfl (by simp) (Nat.le_of_ble_eq_true rfl) (by kernel_rfl) rfl rfl ?_
  rcases hop with rfl | rfl | rfl
  · have hr := hsome (old ++ miss) (by rw [nowP, if_pos rfl, hM])
    have hs := hset (old ++ miss) (by simp; omega)
    simp only [List.map_append] at hs
    generalize setL (sortedL out) n (old ++ miss) = S at *
    by_cases c1 : 16 < (old ++ miss).length
    · have c1' : (16 : Int) < ((old ++ miss).length : Nat) := by omega
      rw [if_pos (.inl c1)] at hr
      subst hr
      simp only [List.length_append, Int.natCast_add] at c1 c1'
      simp -implicitDefEqProofs [popD, strs, atts]
      refine callK hpath ?_
      simp -implicitDefEqProofs
      refine callK hlow ?_
      simp -implicitDefEqProofs
      refine callK hget ?_
      simp -implicitDefEqProofs
      refine callP hcl ?_
      simp -implicitDefEqProofs
      refine callP hmc ?_
      simp -implicitDefEqProofs
      repeat refine And.intro (by omega) ?_
      refine callK hs ?_
      simp -implicitDefEqProofs [c1, c1']
    have c1' : ¬ (16 : Int) < ((old ++ miss).length : Nat) := by omega
    simp only [List.length_append, Int.natCast_add] at c1'
    by_cases c2 : 32 < S.length
    · have c2' : (32 : Int) < S.length := by omega
      rw [if_pos (.inr c2)] at hr
      subst hr
      simp -implicitDefEqProofs [popD, strs, atts]
      refine callK hpath ?_
      simp -implicitDefEqProofs
      refine callK hlow ?_
      simp -implicitDefEqProofs
      refine callK hget ?_
      simp -implicitDefEqProofs
      refine callP hcl ?_
      simp -implicitDefEqProofs
      refine callP hmc ?_
      simp -implicitDefEqProofs
      repeat refine And.intro (by omega) ?_
      refine callK hs ?_
      simp -implicitDefEqProofs [c1', c2, c2']
    · have c2' : ¬ (32 : Int) < S.length := by omega
      rw [if_neg (by omega)] at hr
      subst hr
      simp -implicitDefEqProofs [popD, strs, atts]
      refine callK hpath ?_
      simp -implicitDefEqProofs
      refine callK hlow ?_
      simp -implicitDefEqProofs
      refine callK hget ?_
      simp -implicitDefEqProofs
      refine callP hcl ?_
      simp -implicitDefEqProofs
      refine callP hmc ?_
      simp -implicitDefEqProofs
      repeat refine And.intro (by omega) ?_
      refine callK hs ?_
      simp -implicitDefEqProofs [c1', c2, c2']
  · have e1 : ¬ oRem = oAdd := by decide
    by_cases hpv : pv = []
    · have hr := hsome [] (by rw [nowP, if_neg e1, if_pos rfl, if_pos hpv])
      have hs := hset [] (by simp)
      simp only [List.map_nil] at hs
      generalize setL (sortedL out) n [] = S at *
      by_cases c2 : 32 < S.length
      · have c2' : (32 : Int) < S.length := by omega
        rw [if_pos (.inr c2)] at hr
        subst hr
        simp -implicitDefEqProofs [popD, strs, atts]
        refine callK hpath ?_
        simp -implicitDefEqProofs
        refine callK hlow ?_
        simp -implicitDefEqProofs
        refine callK hget ?_
        simp -implicitDefEqProofs [hpv]
        refine callK hs ?_
        simp -implicitDefEqProofs [c2, c2']
      · have c2' : ¬ (32 : Int) < S.length := by omega
        rw [if_neg (by simp; omega)] at hr
        subst hr
        simp -implicitDefEqProofs [popD, strs, atts]
        refine callK hpath ?_
        simp -implicitDefEqProofs
        refine callK hlow ?_
        simp -implicitDefEqProofs
        refine callK hget ?_
        simp -implicitDefEqProofs [hpv]
        refine callK hs ?_
        simp -implicitDefEqProofs [c2, c2']
    · have hr := hsome (rem) (by rw [nowP, if_neg e1, if_pos rfl, if_neg hpv, hW])
      have hs := hset (rem) (by omega)
      generalize setL (sortedL out) n (rem) = S at *
      by_cases c1 : 16 < (rem).length
      · have c1' : (16 : Int) < ((rem).length : Nat) := by omega
        rw [if_pos (.inl c1)] at hr
        subst hr
        simp -implicitDefEqProofs [popD, strs, atts]
        refine callK hpath ?_
        simp -implicitDefEqProofs
        refine callK hlow ?_
        simp -implicitDefEqProofs
        refine callK hget ?_
        simp -implicitDefEqProofs [hpv]
        refine callK hwo ?_
        simp -implicitDefEqProofs
        refine callK hs ?_
        simp -implicitDefEqProofs [c1, c1']
      have c1' : ¬ (16 : Int) < ((rem).length : Nat) := by omega
      by_cases c2 : 32 < S.length
      · have c2' : (32 : Int) < S.length := by omega
        rw [if_pos (.inr c2)] at hr
        subst hr
        simp -implicitDefEqProofs [popD, strs, atts]
        refine callK hpath ?_
        simp -implicitDefEqProofs
        refine callK hlow ?_
        simp -implicitDefEqProofs
        refine callK hget ?_
        simp -implicitDefEqProofs [hpv]
        refine callK hwo ?_
        simp -implicitDefEqProofs
        refine callK hs ?_
        simp -implicitDefEqProofs [c1', c2, c2']
      · have c2' : ¬ (32 : Int) < S.length := by omega
        rw [if_neg (by omega)] at hr
        subst hr
        simp -implicitDefEqProofs [popD, strs, atts]
        refine callK hpath ?_
        simp -implicitDefEqProofs
        refine callK hlow ?_
        simp -implicitDefEqProofs
        refine callK hget ?_
        simp -implicitDefEqProofs [hpv]
        refine callK hwo ?_
        simp -implicitDefEqProofs
        refine callK hs ?_
        simp -implicitDefEqProofs [c1', c2, c2']
  · have e1 : ¬ oRepl = oAdd := by decide
    have e2 : ¬ oRepl = oRem := by decide
    by_cases hpv : pv = []
    · have hr := hsome (vs) (by rw [nowP, if_neg e1, if_neg e2, if_pos hpv])
      have hs := hset (vs) (by omega)
      generalize setL (sortedL out) n (vs) = S at *
      by_cases c1 : 16 < (vs).length
      · have c1' : (16 : Int) < ((vs).length : Nat) := by omega
        rw [if_pos (.inl c1)] at hr
        subst hr
        simp -implicitDefEqProofs [popD, strs, atts]
        refine callK hpath ?_
        simp -implicitDefEqProofs
        refine callK hlow ?_
        simp -implicitDefEqProofs
        refine callK hget ?_
        simp -implicitDefEqProofs [hpv]
        refine callK hs ?_
        simp -implicitDefEqProofs [c1, c1']
      have c1' : ¬ (16 : Int) < ((vs).length : Nat) := by omega
      by_cases c2 : 32 < S.length
      · have c2' : (32 : Int) < S.length := by omega
        rw [if_pos (.inr c2)] at hr
        subst hr
        simp -implicitDefEqProofs [popD, strs, atts]
        refine callK hpath ?_
        simp -implicitDefEqProofs
        refine callK hlow ?_
        simp -implicitDefEqProofs
        refine callK hget ?_
        simp -implicitDefEqProofs [hpv]
        refine callK hs ?_
        simp -implicitDefEqProofs [c1', c2, c2']
      · have c2' : ¬ (32 : Int) < S.length := by omega
        rw [if_neg (by omega)] at hr
        subst hr
        simp -implicitDefEqProofs [popD, strs, atts]
        refine callK hpath ?_
        simp -implicitDefEqProofs
        refine callK hlow ?_
        simp -implicitDefEqProofs
        refine callK hget ?_
        simp -implicitDefEqProofs [hpv]
        refine callK hs ?_
        simp -implicitDefEqProofs [c1', c2, c2']
    by_cases hin : pv ∈ old
    · rw [decide_eq_true hin] at hct
      have hr := hsome (rem ++ missw) (by rw [nowP, if_neg e1, if_neg e2, if_neg hpv, if_pos hin, hW, hMW])
      have hs := hset (rem ++ missw) (by simp; omega)
      simp only [List.map_append] at hs
      generalize setL (sortedL out) n (rem ++ missw) = S at *
      by_cases c1 : 16 < (rem ++ missw).length
      · have c1' : (16 : Int) < ((rem ++ missw).length : Nat) := by omega
        rw [if_pos (.inl c1)] at hr
        subst hr
        simp only [List.length_append, Int.natCast_add] at c1 c1'
        simp -implicitDefEqProofs [popD, strs, atts]
        refine callK hpath ?_
        simp -implicitDefEqProofs
        refine callK hlow ?_
        simp -implicitDefEqProofs
        refine callK hget ?_
        simp -implicitDefEqProofs [hpv]
        refine callK hct ?_
        simp -implicitDefEqProofs
        refine callK hwo ?_
        simp -implicitDefEqProofs
        refine callK hmw ?_
        simp -implicitDefEqProofs
        repeat refine And.intro (by omega) ?_
        refine callK hs ?_
        simp -implicitDefEqProofs [c1, c1']
      have c1' : ¬ (16 : Int) < ((rem ++ missw).length : Nat) := by omega
      simp only [List.length_append, Int.natCast_add] at c1'
      by_cases c2 : 32 < S.length
      · have c2' : (32 : Int) < S.length := by omega
        rw [if_pos (.inr c2)] at hr
        subst hr
        simp -implicitDefEqProofs [popD, strs, atts]
        refine callK hpath ?_
        simp -implicitDefEqProofs
        refine callK hlow ?_
        simp -implicitDefEqProofs
        refine callK hget ?_
        simp -implicitDefEqProofs [hpv]
        refine callK hct ?_
        simp -implicitDefEqProofs
        refine callK hwo ?_
        simp -implicitDefEqProofs
        refine callK hmw ?_
        simp -implicitDefEqProofs
        repeat refine And.intro (by omega) ?_
        refine callK hs ?_
        simp -implicitDefEqProofs [c1', c2, c2']
      · have c2' : ¬ (32 : Int) < S.length := by omega
        rw [if_neg (by omega)] at hr
        subst hr
        simp -implicitDefEqProofs [popD, strs, atts]
        refine callK hpath ?_
        simp -implicitDefEqProofs
        refine callK hlow ?_
        simp -implicitDefEqProofs
        refine callK hget ?_
        simp -implicitDefEqProofs [hpv]
        refine callK hct ?_
        simp -implicitDefEqProofs
        refine callK hwo ?_
        simp -implicitDefEqProofs
        refine callK hmw ?_
        simp -implicitDefEqProofs
        repeat refine And.intro (by omega) ?_
        refine callK hs ?_
        simp -implicitDefEqProofs [c1', c2, c2']
    · rw [decide_eq_false hin] at hct
      have hr := hnone (by rw [nowP, if_neg e1, if_neg e2, if_neg hpv, if_neg hin])
      subst hr
      simp -implicitDefEqProofs [popD, strs, atts]
      refine callK hpath ?_
      simp -implicitDefEqProofs
      refine callK hlow ?_
      simp -implicitDefEqProofs
      refine callK hget ?_
      simp -implicitDefEqProofs [hpv]
      refine callK hct ?_
      simp -implicitDefEqProofs
end Go.Proofs.Tz

/- Patch operations: Apply, in both. -/
set_option maxRecDepth 100000
set_option maxHeartbeats 4000000
set_option linter.unusedVariables false
set_option linter.unusedSimpArgs false
namespace Go.Proofs.Tz
open Go.Vw Go.RowKit Go.Proofs

theorem goP_drop {out : List Att} {l : List POp} {k : Nat} (h : k < l.length) : goP out (l.drop k) = if (stepP out l[k]).2 = 0 then goP (stepP out l[k]).1 (l.drop (k + 1)) else stepP out l[k] := by rw [drop_c h]; rfl

def PApI (R : List Att × Int) (a : List Att) (l : List POp) (k : Nat) (τ : St) : Prop := τ 25 = .d (.sl (l.map popD)) ∧ τ 26 = .d (.int .i64 l.length) ∧ τ 27 = .d (.int .i64 k) ∧ ∃ out, (τ 8 = .own false 52 (out.map att) ∨ τ 8 = .d (.sl (out.map att))) ∧ Valid out ∧ R = goP out (l.drop k)

theorem papply_fn (a : List Att) (l : List POp) (ha : Fits a) (hv : FitV a) (hl : FitP l) : Ctr Tryz.prog 17 [.d (atts a), .d (pops l)] (.tup [.d (atts (applyP a l).1), .d (.int .i64 (applyP a l).2)]) := by
  refine fn_of_vwpN (rv := .tmp 4) (rs := [.tmp 5]) (r := .d (atts (applyP a l).1)) (ys := [.d (.int .i64 (applyP a l).2)]) (fun _ => false) (by kernel_rfl) Tryz.func17 (by kernel_rfl) rfl rfl (by simp) (Nat.le_of_ble_eq_true rfl) (by kernel_rfl) rfl rfl ?_
  obtain ⟨R, hR⟩ : ∃ R, applyP a l = R := ⟨_, rfl⟩
  rw [hR]
  unfold applyP at hR
  have hca := check_fn a ha hv
  have hcl := pcheck_fn l hl
  simp only [atts, pops] at hca hcl
  by_cases h1 : checkL a = 0
  case neg =>
    rw [if_neg h1] at hR
    subst hR
    simp -implicitDefEqProofs [atts, pops]
    refine callK hca ?_
    simp -implicitDefEqProofs [h1]
  rw [if_pos h1] at hR
  by_cases h2 : checkP l = 0
  case neg =>
    rw [if_neg h2] at hR
    subst hR
    simp -implicitDefEqProofs [atts, pops]
    refine callK hca ?_
    simp -implicitDefEqProofs [h1]
    refine callK hcl ?_
    simp -implicitDefEqProofs [h2]
  rw [if_pos h2] at hR
  have hva := (check_iff a).1 h1
  obtain ⟨h32, hok⟩ := (checkP_zero l).1 h2
  have hS := sorted_fn a (valid_fit hva).1
  simp only [atts] at hS
  simp -implicitDefEqProofs [atts, pops]
  refine callK hca ?_
  simp -implicitDefEqProofs [h1]
  refine callK hcl ?_
  simp -implicitDefEqProofs [h2]
  refine callK hS ?_
  simp -implicitDefEqProofs
  refine loopN l.length (PApI R a l) ?_ ?_
  · exact ⟨by simp, by simp, by simp, sortedL a, .inl (by simp), hva.sorted, by rw [← hR]; rfl⟩
  clear hR hca hcl hS
  rintro k τ hk ⟨h25, h26, h27, out, h8, hvo, hgo⟩
  by_cases hlt : k < l.length
  · have hlt' : (k : Int) < l.length := by omega
    rw [goP_drop hlt] at hgo
    have hxo := hok l[k] (List.getElem_mem hlt)
    have hst := pstep_fn out l[k] hvo hxo (hl.2 l[k] (List.getElem_mem hlt)).2.1
    have hsv := fun r => step_valid (r := r) hvo hxo
    have hse := step_err (out := out) (x := l[k])
    generalize hx : l[k] = x at *
    generalize stepP out x = S at *
    obtain ⟨o, p, vs⟩ := x
    simp only [popD, atts, strs] at hst
    by_cases h0 : S.2 = 0
    · rw [if_pos h0] at hgo
      have hv2 := (hsv S.1 (by rw [← h0])).1
      rcases h8 with h8 | h8
      all_goals
        simp -implicitDefEqProofs [h25, h26, h27, h8, hlt, hlt', hx, popD, strs]
        refine callK hst ?_
        simp -implicitDefEqProofs [h25, h26, h27, h8, hlt, hlt', h0]
        repeat refine And.intro (by omega) ?_
        exact again hlt ⟨by simp [h25], by simp [h26], by simp, S.1, .inr (by simp), hv2, hgo⟩
    · rw [if_neg h0] at hgo
      have he : S = ([], S.2) := by rw [← hse h0]
      generalize S.2 = e at *
      subst he
      subst hgo
      rcases h8 with h8 | h8
      all_goals
        simp -implicitDefEqProofs [h25, h26, h27, h8, hlt, hlt', hx, popD, strs]
        refine callK hst ?_
        simp -implicitDefEqProofs [h25, h26, h27, h8, hlt, hlt', h0, atts]
  · rw [List.drop_of_length_le (by omega)] at hgo
    have hlt' : ¬ (k : Int) < l.length := by omega
    subst hgo
    rcases h8 with h8 | h8
    all_goals
      simp -implicitDefEqProofs [h25, h26, h27, h8, hlt, hlt', goP, atts]

def afterT (o : Option (List Str)) : List Str × Int := match o with
  | some now => (now, 0)
  | none => ([], 6)

theorem mem_base {base vs : List Str} {k : Nat} (hk : k < vs.length) (hn : vs.Nodup) : vs[k] ∈ base ++ missL base (vs.take k) ↔ vs[k] ∈ base := by
  rw [List.mem_append, mem_missL]
  constructor
  · rintro (h | ⟨h, _⟩)
    · exact h
    · obtain ⟨j, hj, e⟩ := List.mem_take_iff_getElem.1 h
      have := nodup_inj hn (i := j) (j := k) (by omega) hk e
      omega
  · exact .inl

theorem after_fn (old : List Str) (x : POp) (v : Str) (hx : opB x.1 = true) (ho : old.length ≤ 1000) (hvl : x.2.2.length ≤ 1000) (hn : x.2.2.Nodup) : Ctr Tryz.prog 49 [.d (strs old), .d (popD x), .d (.str v)] (.tup [.d (strs (afterT (nowP old x.1 v x.2.2)).1), .d (.int .i64 (afterT (nowP old x.1 v x.2.2)).2)]) := by
  obtain ⟨o, p, vs⟩ := x
  simp only at hx hvl hn ⊢
  refine fn_of_vwpN (rv := .tmp 6) (rs := [.tmp 7]) (r := .d (strs (afterT (nowP old o v vs)).1)) (ys := [.d (.int .i64 (afterT (nowP old o v vs)).2)]) (fun _ => false) (by kernel_rfl) Tryz.func49 (by kernel_rfl) rfl rfl (by simp) (Nat.le_of_ble_eq_true rfl) (by kernel_rfl) rfl rfl ?_
  have hwi := within_fn old v (by omega)
  have hwo := withoutR_fn old v (by omega)
  have hbase : ∀ (base : List Str), base.length ≤ 1000 → ∀ k (h : k < vs.length), Ctr Tryz.prog 92 [.d (.sl (base.map .str ++ missD base vs k)), .d (.str vs[k])] (.d (.bool (decide (vs[k] ∈ base)))) := fun base hb k hk => by
    have h1 := within_fn (base ++ missL base (vs.take k)) vs[k] (by
      have := missD_len base vs k
      rw [missD, List.length_map] at this
      simp; omega)
    rw [decide_eq_decide.2 (mem_base hk hn)] at h1
    simpa only [strs, List.map_append, missD] using h1
  have hrl : (remL old v).length ≤ 1000 := Nat.le_trans (List.length_filter_le _ _) ho
  simp only [strs] at hwi hwo
  rcases opB_cases hx with rfl | rfl | rfl
  · have hr : afterT (nowP old oAdd v vs) = (old ++ missL old vs, 0) := by rw [nowP, if_pos rfl]; rfl
    rw [hr]
    have hb := hbase old ho
    simp -implicitDefEqProofs [popD, strs]
    repeat refine And.intro (by omega) ?_
    refine loopN vs.length (fun k τ => τ 4 = .box (.agg [.str oAdd, .str p, .sl (vs.map .str)]) ∧ τ 9 = .d (.int .i64 k) ∧ τ 8 = .own false 9 (old.map .str ++ missD old vs k)) (by simp [missD_zero]) ?_
    rintro k τ hk ⟨h4, h9, h8⟩
    have e3 := missD_len old vs k
    by_cases hlt : k < vs.length
    · have hlt' : (k : Int) < vs.length := by omega
      have e1 := missD_succ old hlt
      have hbk := hb k hlt
      generalize hx : vs[k] = y at *
      by_cases hin2 : y ∈ old
      · rw [if_pos hin2, List.append_nil] at e1
        rw [decide_eq_true hin2] at hbk
        simp -implicitDefEqProofs [h4, h9, h8, hlt, hlt', hx]
        refine callK hbk ?_
        simp -implicitDefEqProofs [h4, h9, h8, hlt, hlt', hx]
        repeat refine And.intro (by omega) ?_
        exact again hlt ⟨by simp [h4], by simp, by simp [h8, e1]⟩
      · rw [if_neg hin2] at e1
        rw [decide_eq_false hin2] at hbk
        simp -implicitDefEqProofs [h4, h9, h8, hlt, hlt', hx]
        refine callK hbk ?_
        simp -implicitDefEqProofs [h4, h9, h8, hlt, hlt', hx]
        repeat refine And.intro (by omega) ?_
        exact again hlt ⟨by simp [h4], by simp, by simp [e1]⟩
    · have hlt' : ¬ (k : Int) < vs.length := by omega
      rw [missD_all old vs (by omega)] at h8
      simp -implicitDefEqProofs [h4, h9, h8, hlt, hlt']
  · have e1 : ¬ oRem = oAdd := by decide
    by_cases hv0 : v = []
    · have hr : afterT (nowP old oRem v vs) = ([], 0) := by rw [nowP, if_neg e1, if_pos rfl, if_pos hv0]; rfl
      rw [hr]
      simp -implicitDefEqProofs [popD, strs, hv0]
    · have hr : afterT (nowP old oRem v vs) = (remL old v, 0) := by rw [nowP, if_neg e1, if_pos rfl, if_neg hv0]; rfl
      rw [hr]
      simp -implicitDefEqProofs [popD, strs, hv0]
      refine callK hwo ?_
      simp -implicitDefEqProofs
  · have e1 : ¬ oRepl = oAdd := by decide
    have e2 : ¬ oRepl = oRem := by decide
    by_cases hv0 : v = []
    · have hr : afterT (nowP old oRepl v vs) = (vs, 0) := by rw [nowP, if_neg e1, if_neg e2, if_pos hv0]; rfl
      rw [hr]
      simp -implicitDefEqProofs [popD, strs, hv0]
      try omega
    · by_cases hin : v ∈ old
      · have hr : afterT (nowP old oRepl v vs) = (remL old v ++ missL (remL old v) vs, 0) := by rw [nowP, if_neg e1, if_neg e2, if_neg hv0, if_pos hin]; rfl
        rw [hr]
        rw [decide_eq_true hin] at hwi
        have hb := hbase (remL old v) hrl
        generalize remL old v = base at *
        simp -implicitDefEqProofs [popD, strs, hv0]
        refine callK hwi ?_
        simp -implicitDefEqProofs
        refine callK hwo ?_
        simp -implicitDefEqProofs
        repeat refine And.intro (by omega) ?_
        refine loopN vs.length (fun k τ => τ 4 = .box (.agg [.str oRepl, .str p, .sl (vs.map .str)]) ∧ τ 9 = .d (.int .i64 k) ∧ τ 8 = .own false 9 (base.map .str ++ missD base vs k)) (by simp [missD_zero]) ?_
        rintro k τ hk ⟨h4, h9, h8⟩
        have e3 := missD_len base vs k
        by_cases hlt : k < vs.length
        · have hlt' : (k : Int) < vs.length := by omega
          have e1 := missD_succ base hlt
          have hbk := hb k hlt
          generalize hx : vs[k] = y at *
          by_cases hin2 : y ∈ base
          · rw [if_pos hin2, List.append_nil] at e1
            rw [decide_eq_true hin2] at hbk
            simp -implicitDefEqProofs [h4, h9, h8, hlt, hlt', hx]
            refine callK hbk ?_
            simp -implicitDefEqProofs [h4, h9, h8, hlt, hlt', hx]
            repeat refine And.intro (by omega) ?_
            exact again hlt ⟨by simp [h4], by simp, by simp [h8, e1]⟩
          · rw [if_neg hin2] at e1
            rw [decide_eq_false hin2] at hbk
            simp -implicitDefEqProofs [h4, h9, h8, hlt, hlt', hx]
            refine callK hbk ?_
            simp -implicitDefEqProofs [h4, h9, h8, hlt, hlt', hx]
            repeat refine And.intro (by omega) ?_
            exact again hlt ⟨by simp [h4], by simp, by simp [e1]⟩
        · have hlt' : ¬ (k : Int) < vs.length := by omega
          rw [missD_all base vs (by omega)] at h8
          simp -implicitDefEqProofs [h4, h9, h8, hlt, hlt']
      · have hr : afterT (nowP old oRepl v vs) = ([], 6) := by rw [nowP, if_neg e1, if_neg e2, if_neg hv0, if_neg hin]; rfl
        rw [hr]
        rw [decide_eq_false hin] at hwi
        simp -implicitDefEqProofs [popD, strs, hv0]
        refine callK hwi ?_
        simp -implicitDefEqProofs
end Go.Proofs.Tz

/- Patch operations: the reference's Apply; differences, in both. -/
set_option maxRecDepth 100000
set_option maxHeartbeats 4000000
set_option linter.unusedVariables false
set_option linter.unusedSimpArgs false
namespace Go.Proofs.Tz
open Go.Vw Go.RowKit Go.Proofs

def PApRI (R : List Att × Int) (l : List POp) (k : Nat) (τ : St) : Prop := τ 1 = .d (.sl (l.map popD)) ∧ τ 8 = .d (.int .i64 k) ∧ ∃ out, (τ 7 = .own false 52 (out.map att) ∨ τ 7 = .d (.sl (out.map att))) ∧ Valid out ∧ sortedL out = out ∧ R = goP out (l.drop k)

theorem papplyR_fn (a : List Att) (l : List POp) (ha : Fits a) (hl : FitP l) : Ctr Tryz.prog 18 [.d (atts a), .d (pops l)] (.tup [.d (atts (applyP a l).1), .d (.int .i64 (applyP a l).2)]) := by
  refine fn_of_vwpN (rv := .tmp 4) (rs := [.tmp 5]) (r := .d (atts (applyP a l).1)) (ys := [.d (.int .i64 (applyP a l).2)]) (fun _ => false) (by kernel_rfl) Tryz.func18 (by kernel_rfl) rfl rfl (by simp) (Nat.le_of_ble_eq_true rfl) (by kernel_rfl) rfl rfl ?_
  obtain ⟨R, hR⟩ : ∃ R, applyP a l = R := ⟨_, rfl⟩
  rw [hR]
  unfold applyP at hR
  have hca := checkR_fn a ha
  have hcl := pcheckR_fn l hl
  simp only [atts, pops] at hca hcl
  by_cases h1 : checkL a = 0
  case neg =>
    rw [if_neg h1] at hR
    subst hR
    simp -implicitDefEqProofs [atts, pops]
    refine callK hca ?_
    simp -implicitDefEqProofs [h1]
  rw [if_pos h1] at hR
  by_cases h2 : checkP l = 0
  case neg =>
    rw [if_neg h2] at hR
    subst hR
    simp -implicitDefEqProofs [atts, pops]
    refine callK hca ?_
    simp -implicitDefEqProofs [h1]
    refine callK hcl ?_
    simp -implicitDefEqProofs [h2]
  rw [if_pos h2] at hR
  have hva := (check_iff a).1 h1
  obtain ⟨h32, hok⟩ := (checkP_zero l).1 h2
  have hS := sortedR_fn a (valid_fit hva).1
  simp only [atts] at hS
  simp -implicitDefEqProofs [atts, pops]
  refine callK hca ?_
  simp -implicitDefEqProofs [h1]
  refine callK hcl ?_
  simp -implicitDefEqProofs [h2]
  refine callK hS ?_
  simp -implicitDefEqProofs
  refine loopN l.length (PApRI R l) ?_ ?_
  · exact ⟨by simp, by simp, sortedL a, .inl (by simp), hva.sorted, sorted_idem a, by rw [← hR]; rfl⟩
  clear hR hca hcl hS
  rintro k τ hk ⟨h1', h8, out, h7, hvo, hso, hgo⟩
  by_cases hlt : k < l.length
  · have hlt' : (k : Int) < l.length := by omega
    rw [goP_drop hlt] at hgo
    have hxo := hok l[k] (List.getElem_mem hlt)
    have hpl := (hl.2 l[k] (List.getElem_mem hlt)).2.1
    have hpath := pathR_fn l[k].2.1 hpl
    have hnl : List.length (nameP l[k]) < 1000000 := by have := (path_len (s := l[k].2.1)).1; rw [nameP, lower_len]; omega
    have hlow := lower_fn (pathP l[k].2.1).1 (by have := (path_len (s := l[k].2.1)).1; omega)
    have hget := getR_fn out (nameP l[k]) (valid_fit hvo).1 hnl
    have hol := hvo.get (nameP l[k])
    have haf := after_fn (getL out (nameP l[k])) l[k] (partP l[k]) hxo.op (by omega) (by have := hxo.len; omega) hxo.nod
    have hset := fun now (h : now.length ≤ 1000) => psetR_fn out (nameP l[k]) now hvo hso (nameP_low _) hnl h
    have hsome := stepP_def out l[k]
    have hnone : nowP (getL out (nameP l[k])) l[k].1 (partP l[k]) l[k].2.2 = none → stepP out l[k] = ([], 6) := fun h => by rw [stepP, h]
    have hsv := fun r => step_valid (r := r) hvo hxo
    have hnow : ∀ now, nowP (getL out (nameP l[k])) l[k].1 (partP l[k]) l[k].2.2 = some now → now.length ≤ 1000 := fun now h => by
      have h1 := nodup_sub_len (now_nodup (SS_getL _ _).nodup hxo.nod h) (b := getL out (nameP l[k]) ++ l[k].2.2) (fun v hv => by
        rcases now_sub h v hv with h | h <;> simp [h])
      have := hxo.len
      simp at h1
      omega
    have en : lower (pathP l[k].2.1).1 = nameP l[k] := rfl
    have ep : (pathP l[k].2.1).2.1 = partP l[k] := rfl
    rw [en] at hlow
    rw [ep] at hpath
    clear en ep
    generalize hN : nameP l[k] = n at *
    generalize hP : partP l[k] = pv at *
    generalize hx : l[k] = x at *
    generalize stepP out x = S at *
    obtain ⟨o, p, vs⟩ := x
    simp only at hpath hlow haf hsome hnone hnow
    generalize getL out n = old at *
    generalize (pathP p).1 = pn at *
    generalize (pathP p).2.2 = pe at *
    clear hN hP
    simp only [popD, atts, strs] at haf hget
    cases hno : nowP old o pv vs with
    | none =>
      have hS6 := hnone hno
      subst hS6
      rw [hno] at haf
      simp only [afterT] at haf
      rw [if_neg (by decide)] at hgo
      subst hgo
      rcases h7 with h7 | h7
      all_goals
        simp -implicitDefEqProofs [h1', h8, h7, hlt, hlt', hx, popD, strs]
        refine callK hpath ?_
        simp -implicitDefEqProofs [h1', h8, h7, hlt, hlt']
        refine callK hlow ?_
        simp -implicitDefEqProofs [h1', h8, h7, hlt, hlt', hx, popD, strs]
        refine callP hget ?_
        simp -implicitDefEqProofs [h1', h8, h7, hlt, hlt', hx, popD, strs]
        refine callP haf ?_
        simp -implicitDefEqProofs [h1', h8, h7, hlt, hlt', hx, popD, strs]
        all_goals simp [atts]
    | some now =>
      have hSd := hsome now hno
      have hs := hset now (hnow now hno)
      rw [hno] at haf
      simp only [afterT] at haf
      simp only [atts, strs] at hs
      generalize setL (sortedL out) n now = S2 at *
      by_cases c1 : 16 < now.length
      · have c1' : (16 : Int) < now.length := by omega
        rw [if_pos (.inl c1)] at hSd
        subst hSd
        rw [if_neg (by decide)] at hgo
        subst hgo
        rcases h7 with h7 | h7
        all_goals
          simp -implicitDefEqProofs [h1', h8, h7, hlt, hlt', hx, popD, strs]
          refine callK hpath ?_
          simp -implicitDefEqProofs [h1', h8, h7, hlt, hlt']
          refine callK hlow ?_
          simp -implicitDefEqProofs [h1', h8, h7, hlt, hlt', hx, popD, strs]
          refine callP hget ?_
          simp -implicitDefEqProofs [h1', h8, h7, hlt, hlt', hx, popD, strs]
          refine callP haf ?_
          simp -implicitDefEqProofs [h1', h8, h7, hlt, hlt', hx, popD, strs]
          refine callK hs ?_
          simp -implicitDefEqProofs [h1', h8, h7, c1, c1', atts]
      have c1' : ¬ (16 : Int) < now.length := by omega
      by_cases c2 : 32 < S2.length
      · have c2' : (32 : Int) < S2.length := by omega
        rw [if_pos (.inr c2)] at hSd
        subst hSd
        rw [if_neg (by decide)] at hgo
        subst hgo
        rcases h7 with h7 | h7
        all_goals
          simp -implicitDefEqProofs [h1', h8, h7, hlt, hlt', hx, popD, strs]
          refine callK hpath ?_
          simp -implicitDefEqProofs [h1', h8, h7, hlt, hlt']
          refine callK hlow ?_
          simp -implicitDefEqProofs [h1', h8, h7, hlt, hlt', hx, popD, strs]
          refine callP hget ?_
          simp -implicitDefEqProofs [h1', h8, h7, hlt, hlt', hx, popD, strs]
          refine callP haf ?_
          simp -implicitDefEqProofs [h1', h8, h7, hlt, hlt', hx, popD, strs]
          refine callK hs ?_
          simp -implicitDefEqProofs [h1', h8, h7, c1, c1', c2, c2', atts]
      · have c2' : ¬ (32 : Int) < S2.length := by omega
        rw [if_neg (by omega)] at hSd
        subst hSd
        rw [if_pos rfl] at hgo
        obtain ⟨q1, q2⟩ := hsv S2 rfl
        rcases h7 with h7 | h7
        all_goals
          simp -implicitDefEqProofs [h1', h8, h7, hlt, hlt', hx, popD, strs]
          refine callK hpath ?_
          simp -implicitDefEqProofs [h1', h8, h7, hlt, hlt']
          refine callK hlow ?_
          simp -implicitDefEqProofs [h1', h8, h7, hlt, hlt', hx, popD, strs]
          refine callP hget ?_
          simp -implicitDefEqProofs [h1', h8, h7, hlt, hlt', hx, popD, strs]
          refine callP haf ?_
          simp -implicitDefEqProofs [h1', h8, h7, hlt, hlt', hx, popD, strs]
          refine callK hs ?_
          simp -implicitDefEqProofs [h1', h8, h7, c1, c1', c2, c2']
          repeat refine And.intro (by omega) ?_
          exact again hlt ⟨by simp [h1'], by simp, S2, .inr (by simp), q1, q2, hgo⟩
  · rw [List.drop_of_length_le (by omega)] at hgo
    have hlt' : ¬ (k : Int) < l.length := by omega
    subst hgo
    rcases h7 with h7 | h7
    all_goals
      simp -implicitDefEqProofs [h1', h8, h7, hlt, hlt', goP, atts]
end Go.Proofs.Tz

/- Patch operations: sameness, and differences, in both. -/
set_option maxRecDepth 100000
set_option maxHeartbeats 4000000
set_option linter.unusedVariables false
set_option linter.unusedSimpArgs false
namespace Go.Proofs.Tz
open Go.Vw Go.RowKit Go.Proofs

theorem same_fn (l m : List Str) (hl : l.length < 1000000) (hm : m.length < 1000000) : Ctr Tryz.prog 35 [.d (strs l), .d (strs m)] (.d (.bool (decide (l = m)))) := by
  refine fn_of_vwp (fun _ => false) (by kernel_rfl) Tryz.func35 (by kernel_rfl) rfl rfl (Nat.le_of_ble_eq_true rfl) (by kernel_rfl) rfl rfl ?_
  by_cases hlm : l.length = m.length
  · simp -implicitDefEqProofs [strs, hlm]
    refine loopN m.length (fun k τ => τ 0 = .d (strs l) ∧ τ 1 = .d (strs m) ∧ τ 5 = .d (.int .i64 k) ∧ l.take k = m.take k) (by simp [strs]) ?_
    rintro k τ hk ⟨h0, h1, h5, ht⟩
    by_cases hlt : k < m.length
    · have hlt' : k < l.length := by omega
      by_cases he : l[k] = m[k]
      · simp -implicitDefEqProofs [h0, h1, h5, strs, hlm, hlt, hlt', he]
        refine ⟨by omega, again hlt ⟨by simp [h0, strs], by simp [h1, strs], by simp, ?_⟩⟩
        rw [take_s hlt, take_s hlt', ht, he]
      · simp -implicitDefEqProofs [h0, h1, h5, strs, hlm, hlt, hlt', he]
        rintro rfl
        exact he rfl
    · simp -implicitDefEqProofs [h0, h1, h5, strs, hlm, hlt]
      rw [List.take_of_length_le (by omega), List.take_of_length_le (by omega)] at ht
      first | exact ⟨by omega, ht⟩ | exact ht
  · have hlm' : ¬ (l.length : Int) = m.length := by omega
    simp -implicitDefEqProofs [strs, hlm']
    rintro rfl
    exact hlm rfl

theorem sameA_fn (l m : List Att) (hl : Fits l) (hm : Fits m) : Ctr Tryz.prog 19 [.d (atts l), .d (atts m)] (.d (.bool (decide (l = m)))) := by
  refine fn_of_vwp (fun _ => false) (by kernel_rfl) Tryz.func19 (by kernel_rfl) rfl rfl (Nat.le_of_ble_eq_true rfl) (by kernel_rfl) rfl rfl ?_
  have hl1 := hl.1
  have hm1 := hm.1
  by_cases hlm : l.length = m.length
  · simp -implicitDefEqProofs [atts, hlm]
    refine loopN m.length (fun k τ => τ 0 = .d (atts l) ∧ τ 1 = .d (atts m) ∧ τ 12 = .d (.int .i64 m.length) ∧ τ 13 = .d (.int .i64 k) ∧ l.take k = m.take k) (by simp [atts, hlm]) ?_
    rintro k τ hk ⟨h0, h1, h12, h5, ht⟩
    by_cases hlt : k < m.length
    · have hlt' : k < l.length := by omega
      by_cases he : l[k].1 = m[k].1
      · simp -implicitDefEqProofs [h0, h1, h12, h5, atts, att, strs, hlm, hlt, hlt', he]
        refine callP (same_fn _ _ (hl.2 _ (List.getElem_mem hlt')).2 (hm.2 _ (List.getElem_mem hlt)).2) ?_
        by_cases he2 : l[k].2 = m[k].2
        · simp -implicitDefEqProofs [h0, h1, h12, h5, atts, att, strs, hlm, hlt, hlt', he, he2]
          refine ⟨by omega, again hlt ⟨by simp [h0, atts, att, strs], by simp [h1, atts, att, strs], by simp [h12], by simp, ?_⟩⟩
          rw [take_s hlt, take_s hlt', ht, Prod.ext he he2]
        · simp -implicitDefEqProofs [h0, h1, h12, h5, atts, att, strs, hlm, hlt, hlt', he, he2]
          rintro rfl
          exact he2 rfl
      · simp -implicitDefEqProofs [h0, h1, h12, h5, atts, att, strs, hlm, hlt, hlt', he]
        rintro rfl
        exact he rfl
    · simp -implicitDefEqProofs [h0, h1, h12, h5, atts, hlm, hlt]
      rw [List.take_of_length_le (by omega), List.take_of_length_le (by omega)] at ht
      first | exact ⟨by omega, ht⟩ | exact ht
  · have hlm' : ¬ (l.length : Int) = m.length := by omega
    simp -implicitDefEqProofs [atts, hlm']
    rintro rfl
    exact hlm rfl

theorem sameP_fn (l m : List POp) (hl : FitP l) (hm : FitP m) : Ctr Tryz.prog 22 [.d (pops l), .d (pops m)] (.d (.bool (decide (l = m)))) := by
  refine fn_of_vwp (fun _ => false) (by kernel_rfl) Tryz.func22 (by kernel_rfl) rfl rfl (Nat.le_of_ble_eq_true rfl) (by kernel_rfl) rfl rfl ?_
  have hl1 := hl.1
  have hm1 := hm.1
  by_cases hlm : l.length = m.length
  · simp -implicitDefEqProofs [pops, hlm]
    refine loopN m.length (fun k τ => τ 0 = .d (pops l) ∧ τ 1 = .d (pops m) ∧ τ 5 = .d (.int .i64 k) ∧ l.take k = m.take k) (by simp [pops]) ?_
    rintro k τ hk ⟨h0, h1, h5, ht⟩
    by_cases hlt : k < m.length
    · have hlt' : k < l.length := by omega
      have e1 := take_s hlt
      have e2 := take_s hlt'
      have f1 := hl.2 _ (List.getElem_mem hlt')
      have f2 := hm.2 _ (List.getElem_mem hlt)
      have hne : l[k] ≠ m[k] → l ≠ m := by rintro h rfl; exact h rfl
      generalize hx : l[k] = x at *
      generalize hy : m[k] = y at *
      obtain ⟨a, b, c⟩ := x
      obtain ⟨a', b', c'⟩ := y
      simp only at f1 f2
      have hsame := same_fn c c' (by omega) (by omega)
      simp only [strs] at hsame
      by_cases he : a = a'
      · subst he
        by_cases he2 : b = b'
        · subst he2
          by_cases he3 : c = c'
          · subst he3
            simp -implicitDefEqProofs [h0, h1, h5, pops, hlm, hlt, hlt', hx, hy, popD, strs]
            refine callP hsame ?_
            simp -implicitDefEqProofs [h0, h1, h5, pops, hlm, hlt, hlt', hx, hy, popD, strs]
            repeat refine And.intro (by omega) ?_
            refine again hlt ⟨by simp [h0, pops], by simp [h1, pops], by simp, ?_⟩
            rw [e1, e2, ht]
          · have hn := hne (by simp [he3])
            simp -implicitDefEqProofs [h0, h1, h5, pops, hlm, hlt, hlt', hx, hy, popD, strs]
            refine callP hsame ?_
            simp -implicitDefEqProofs [h0, h1, h5, pops, hlm, hlt, hlt', hx, hy, popD, strs, he3, hn]
        · have hn := hne (by simp [he2])
          simp -implicitDefEqProofs [h0, h1, h5, pops, hlm, hlt, hlt', hx, hy, popD, strs, he2, hn]
      · have hn := hne (by simp [he])
        simp -implicitDefEqProofs [h0, h1, h5, pops, hlm, hlt, hlt', hx, hy, popD, strs, he, hn]
    · simp -implicitDefEqProofs [h0, h1, h5, pops, hlm, hlt]
      rw [List.take_of_length_le (by omega), List.take_of_length_le (by omega)] at ht
      first | exact ⟨by omega, ht⟩ | exact ht
  · have hlm' : ¬ (l.length : Int) = m.length := by omega
    simp -implicitDefEqProofs [pops, hlm']
    rintro rfl
    exact hlm rfl
end Go.Proofs.Tz
