/-
  What the functions that the statements about references reach compute, part 6 of 6: contracts and plain laws, for lists and strings of bounded size (each theorem states its bound).
-/
import Derived.Test.YtcmocioniaggoaaGreatDoorTe
import Derived.Test.YtcmocioniaggoaaGreatDoorTc
import Derived.Test.YtcmocioniaggoaaGreatDoorTa
import Derived.Test.YtcmocioniaggoaaGreatDoorWc

set_option linter.unusedSimpArgs false
set_option linter.unusedVariables false

/- Layer 13 (refint), the reference: Renamed. -/
set_option maxRecDepth 100000
set_option maxHeartbeats 8000000
namespace Go.Proofs.Tz
open Go.Vw Go.RowKit Go.Proofs Go.Sort

end Go.Proofs.Tz

/- Layer 13 (refint), the reference: Removed, SameMods. -/
namespace Go.Proofs.Tz
open Go.Vw Go.RowKit Go.Proofs Go.Sort

end Go.Proofs.Tz

/- The statement RefintRefs. -/
set_option maxHeartbeats 16000000
namespace Go.Proofs.Tz
open Go.Vw Go.RowKit Go.Proofs Go.Sort

theorem entB_fit {e : Ent} (h : entB e = true) : FitR e.2 ∧ List.length e.1 ≤ 300 := by
  unfold entB at h
  simp only [Bool.and_eq_true, decide_eq_true_eq, List.all_eq_true] at h
  obtain ⟨h1, h2, h3⟩ := h
  have hv : ∀ a ∈ e.2, List.length a.1 ≤ 300 ∧ a.2.length ≤ 8 ∧ ∀ v ∈ a.2, List.length v ≤ 300 := fun a ha => by
    have := h3 a ha
    simp only [attB, shB, Bool.and_eq_true, decide_eq_true_eq, List.all_eq_true] at this
    exact this
  have htot : ∀ l : List Att, (∀ a ∈ l, a.2.length ≤ 8) → total l ≤ l.length * 8 := by
    intro l
    induction l with
    | nil => intro _; simp [total]
    | cons a l ih =>
      intro h
      have h1 := h a (by simp)
      have h2 := ih (fun b hb => h b (by simp [hb]))
      have : total (a :: l) = a.2.length + total l := by simp [total]
      simp only [List.length_cons]
      omega
  have := htot e.2 (fun a ha => (hv a ha).2.1)
  refine ⟨⟨⟨⟨by omega, fun a ha => ?_⟩, by omega⟩, fun a ha v hva => ?_⟩, by simpa [shB] using h1⟩
  · obtain ⟨q1, q2, _⟩ := hv a ha
    exact ⟨by omega, by omega⟩
  · have := (hv a ha).2.2 v hva
    omega
theorem lgtB_one {s : Sch} {e : Ent} (h : lgtB s [e] = true) : entB e = true := by
  unfold lgtB at h
  simp only [Bool.and_eq_true, List.all_eq_true] at h
  exact h.1 e (by simp)
end Go.Proofs.Tz

namespace Go.Proofs.Tz
open Go.Vw Go.Lib

theorem nodup_sub_len {α : Type} [DecidableEq α] : ∀ {a b : List α}, a.Nodup → (∀ x ∈ a, x ∈ b) → a.length ≤ b.length
  | [], _, _, _ => Nat.zero_le _
  | x :: a, b, hn, hs => by
    have hp := List.nodup_cons.1 hn
    have hx := hs x (by simp)
    have ih := nodup_sub_len (a := a) (b := b.erase x) hp.2 fun y hy => (List.mem_erase_of_ne (fun e : y = x => hp.1 (e ▸ hy))).2 (hs y (by simp [hy]))
    rw [List.length_erase_of_mem hx] at ih
    have := List.length_pos_of_mem hx
    simp only [List.length_cons]; omega

theorem isLetter_low (c : UInt8) : isLetter (lowc c) = isLetter c := by
  by_cases h : 65 ≤ (c.toNat : Int) ∧ (c.toNat : Int) ≤ 90
  · have e := lowc_toNat c h.1 h.2
    have h1 : isLetter c = true := by simp only [isLetter, Bool.or_eq_true, Bool.and_eq_true, decide_eq_true_eq]; omega
    have h2 : isLetter (lowc c) = true := by simp only [isLetter, Bool.or_eq_true, Bool.and_eq_true, decide_eq_true_eq]; omega
    rw [h1, h2]
  · rw [lowc, if_neg h]
theorem nameC_low (c : UInt8) : nameC (lowc c) = nameC c := by
  by_cases h : 65 ≤ (c.toNat : Int) ∧ (c.toNat : Int) ≤ 90
  · have e := lowc_toNat c h.1 h.2
    have h1 : isLetter c = true := by simp only [isLetter, Bool.or_eq_true, Bool.and_eq_true, decide_eq_true_eq]; omega
    rw [nameC, nameC, isLetter_low, h1]; simp
  · rw [lowc, if_neg h]
theorem nameB_low (s : Str) : nameB (lower s) = nameB s := by
  have h1 : (lower s).head?.any isLetter = s.head?.any isLetter := by
    cases s with
    | nil => rfl
    | cons c s => simp [lower, isLetter_low]
  have h2 : (lower s).all nameC = s.all nameC := by
    rw [Bool.eq_iff_iff, List.all_eq_true, List.all_eq_true]
    simp only [lower, List.mem_map, forall_exists_index, and_imp, forall_apply_eq_imp_iff₂, nameC_low]
  rw [nameB, nameB, h1, h2, lower_len]

theorem chkA_zero : ∀ (l b : List Att), chkA b l = 0 ↔ (∀ a ∈ l, nameB a.1 = true ∧ (∀ c ∈ b, lower c.1 ≠ lower a.1) ∧ a.2 ≠ [] ∧ a.2.length ≤ 16 ∧ chkV [] [] a.2 = 0) ∧ (l.map fun a => lower a.1).Nodup
  | [], b => by simp [chkA]
  | a :: l, b => by
    rw [chkA]
    by_cases h1 : nameB a.1 = false
    · simp [h1]
    have h1' : nameB a.1 = true := by simpa using h1
    rw [if_neg h1]
    by_cases h2 : (b.any fun c => decide (lower c.1 = lower a.1)) = true
    · rw [if_pos h2]
      obtain ⟨c, hc, he⟩ := List.any_eq_true.1 h2
      constructor
      · intro h; simp at h
      · rintro ⟨h, _⟩
        exact absurd (by simpa using he) ((h a (by simp)).2.1 c hc)
    have h2' : ∀ c ∈ b, lower c.1 ≠ lower a.1 := fun c hc e => h2 (List.any_eq_true.2 ⟨c, hc, by simpa using e⟩)
    rw [if_neg h2]
    by_cases h3 : a.2.length = 0
    · rw [if_pos h3]
      have : a.2 = [] := List.length_eq_zero_iff.1 h3
      simp [this]
    have h3' : a.2 ≠ [] := fun e => h3 (by rw [e]; rfl)
    rw [if_neg h3]
    by_cases h4 : 16 < a.2.length
    · rw [if_pos h4]
      constructor
      · intro h; simp at h
      · rintro ⟨h, _⟩
        have := (h a (by simp)).2.2.2.1
        omega
    rw [if_neg h4]
    by_cases h5 : chkV [] [] a.2 ≠ 0
    · rw [if_pos h5]
      constructor
      · intro h; exact absurd h h5
      · rintro ⟨h, _⟩
        exact absurd (h a (by simp)).2.2.2.2 h5
    have h5' : chkV [] [] a.2 = 0 := by simpa using h5
    rw [if_neg h5, chkA_zero l (b ++ [a])]
    simp only [List.mem_cons, forall_eq_or_imp, List.mem_append, List.mem_nil_iff, or_false, List.map_cons, List.nodup_cons]
    constructor
    · rintro ⟨g1, g2⟩
      refine ⟨⟨⟨h1', h2', h3', by omega, h5'⟩, fun x hx => ⟨(g1 x hx).1, fun c hc => (g1 x hx).2.1 c (.inl hc), (g1 x hx).2.2⟩⟩, fun hm => ?_, g2⟩
      obtain ⟨x, hx, e⟩ := List.mem_map.1 hm
      exact (g1 x hx).2.1 a (.inr rfl) e.symm
    · rintro ⟨⟨_, g1⟩, g2, g3⟩
      refine ⟨fun x hx => ⟨(g1 x hx).1, fun c hc => ?_, (g1 x hx).2.2⟩, g3⟩
      rcases hc with hc | rfl
      · exact (g1 x hx).2.1 c hc
      · exact fun e => g2 (List.mem_map.2 ⟨x, hx, e.symm⟩)

structure Valid (l : List Att) : Prop where
  len : l.length ≤ 32
  each : ∀ a ∈ l, nameB a.1 = true ∧ a.2 ≠ [] ∧ a.2.length ≤ 16 ∧ ∀ v ∈ a.2, cleanB v = true
  nod : ∀ a ∈ l, a.2.Nodup
  names : (l.map fun a => lower a.1).Nodup
theorem check_iff (l : List Att) : checkL l = 0 ↔ Valid l := by
  rw [checkL]
  by_cases h : 32 < l.length
  · rw [if_pos h]
    constructor
    · intro h; simp at h
    · intro v; have := v.len; omega
  · rw [if_neg h, chkA_zero]
    constructor
    · rintro ⟨h1, h2⟩
      exact ⟨by omega, fun a ha => ⟨(h1 a ha).1, (h1 a ha).2.2.1, (h1 a ha).2.2.2.1, fun v hv => (((chkV_zero [] a.2 []).1 (h1 a ha).2.2.2.2).1 v hv).1⟩, fun a ha => ((chkV_zero [] a.2 []).1 (h1 a ha).2.2.2.2).2, h2⟩
    · intro v
      exact ⟨fun a ha => ⟨(v.each a ha).1, by simp, (v.each a ha).2.1, (v.each a ha).2.2.1, (chkV_zero [] a.2 []).2 ⟨fun x hx => ⟨(v.each a ha).2.2.2 x hx, by simp, by simp⟩, v.nod a ha⟩⟩, v.names⟩
theorem valid_sorted {r : List Att} (h1 : (sortedL r).length ≤ 32) (h2 : ∀ n v, HasL r n v → nameB n = true ∧ cleanB v = true) (h3 : ∀ n, (getL r n).length ≤ 16) : Valid (sortedL r) := by
  have hN := nf_sorted r
  refine ⟨h1, fun x hx => ?_, fun x hx => (hN.vals x hx).nodup, ?_⟩
  · have hne := hN.ne x hx
    have hin : ∀ v ∈ x.2, HasL r x.1 v := fun v hv => (sorted_has r x.1 v).1 ⟨x, hx, rfl, hv⟩
    obtain ⟨v, hv⟩ := List.exists_mem_of_ne_nil _ hne
    refine ⟨(h2 _ _ (hin v hv)).1, hne, ?_, fun u hu => (h2 _ _ (hin u hu)).2⟩
    have e : getL r x.1 = x.2 := SS_ext (SS_getL _ _) (hN.vals x hx) fun u => by
      rw [mem_getL, sorted_low hx]
      constructor
      · intro h
        obtain ⟨y, hy, e, hu⟩ := (sorted_has r x.1 u).2 h
        rw [← nf_inj hN hy hx e]; exact hu
      · exact hin u
    rw [← e]; exact h3 x.1
  · have : ((sortedL r).map fun a => lower a.1) = (sortedL r).map (·.1) := List.map_congr_left fun x hx => sorted_low hx
    rw [this]
    exact hN.names.nodup
theorem Valid.get {l : List Att} (h : Valid l) (n : Str) : (getL l n).length ≤ 16 := by
  by_cases he : getL l n = []
  · simp [he]
  obtain ⟨v, hv⟩ := List.exists_mem_of_ne_nil _ he
  obtain ⟨a, ha, ea, _⟩ := (mem_getL l n v).1 hv
  refine Nat.le_trans (nodup_sub_len (SS_getL l n).nodup fun u hu => ?_) (h.each a ha).2.2.1
  obtain ⟨b, hb, eb, hu⟩ := (mem_getL l n u).1 hu
  have : b = a := by
    obtain ⟨i, hi, rfl⟩ := List.mem_iff_getElem.1 ha
    obtain ⟨j, hj, rfl⟩ := List.mem_iff_getElem.1 hb
    have := nodup_inj h.names (i := i) (j := j) (by simpa using hi) (by simpa using hj) (by simp [ea, eb])
    subst this; rfl
  rw [← this]; exact hu
theorem Valid.has {l : List Att} (h : Valid l) {n v : Str} (hh : HasL l n v) : nameB n = true ∧ cleanB v = true := by
  obtain ⟨a, ha, rfl, hv⟩ := hh
  exact ⟨by rw [nameB_low]; exact (h.each a ha).1, (h.each a ha).2.2.2 v hv⟩
theorem Valid.sorted {l : List Att} (h : Valid l) : Valid (sortedL l) :=
  valid_sorted (Nat.le_trans (sorted_len l) h.len) (fun _ _ hh => h.has hh) h.get
theorem getL_set' (l : List Att) (name : Str) (w : List Str) (n : Str) : getL (setL (sortedL l) name w) n = if lower name = lower n then getL (setL (sortedL l) name w) name else getL l n := by
  split
  · rename_i h
    simp only [getL, h]
  · rename_i h; exact getL_other l w h
theorem Valid.set {l : List Att} (h : Valid l) {name : Str} {w : List Str} (hn : nameB name = true) (hw : ∀ v ∈ w, cleanB v = true) (h32 : (setL (sortedL l) name w).length ≤ 32) (h16 : (getL (setL (sortedL l) name w) name).length ≤ 16) : Valid (setL (sortedL l) name w) := by
  have hH := hasL_set l name w
  have hG := getL_set' l name w
  have key : Valid (sortedL (setL (sortedL l) name w)) := by
    have hi : sortedL (setL (sortedL l) name w) = setL (sortedL l) name w := by rw [setL, sorted_idem]
    refine valid_sorted (by rw [hi]; exact h32) (fun n v hh => ?_) (fun n => ?_)
    · rcases (hH n v).1 hh with ⟨_, h1⟩ | ⟨rfl, h1⟩
      · exact h.has h1
      · exact ⟨by rw [nameB_low]; exact hn, hw v h1⟩
    · rw [hG n]
      split
      · exact h16
      · exact h.get n
  have hi : sortedL (setL (sortedL l) name w) = setL (sortedL l) name w := by rw [setL, sorted_idem]
  rw [hi] at key
  exact key
theorem limL_ok {l : List Att} {name : Str} (h : (limL l name).2 = 0) : (limL l name).1 = l ∧ l.length ≤ 32 ∧ (getL l name).length ≤ 16 := by
  unfold limL at h ⊢
  split at h
  · simp at h
  · rename_i hc
    rw [if_neg hc]
    simp only [not_or] at hc
    exact ⟨rfl, by omega, by omega⟩

theorem addP_ok {l : List Att} {name : Str} {v : List Str} (h : (addP l name v).2 = 0) : nameB name = true ∧ v ≠ [] ∧ chkV (getL l name) [] v = 0 ∧ (addP l name v).1 = setL (sortedL l) name (getL l name ++ v) ∧ (addP l name v).1.length ≤ 32 ∧ (getL (addP l name v).1 name).length ≤ 16 := by
  unfold addP at h ⊢
  split at h
  · simp at h
  rename_i h1
  split at h
  · simp at h
  rename_i h2
  split at h
  · rename_i h3; exact absurd h h3
  rename_i h3
  rw [if_neg h1, if_neg h2, if_neg h3]
  obtain ⟨a, b, c⟩ := limL_ok h
  rw [a]
  exact ⟨by simpa using h1, h2, by simpa using h3, rfl, b, c⟩
theorem replP_ok {l : List Att} {name : Str} {v : List Str} (h : (replP l name v).2 = 0) : nameB name = true ∧ chkV [] [] v = 0 ∧ (replP l name v).1 = setL (sortedL l) name v ∧ (replP l name v).1.length ≤ 32 ∧ (getL (replP l name v).1 name).length ≤ 16 := by
  unfold replP at h ⊢
  split at h
  · simp at h
  rename_i h1
  split at h
  · rename_i h3; exact absurd h h3
  rename_i h2
  split at h
  · simp at h
  rename_i h3
  rw [if_neg h1, if_neg h2, if_neg h3]
  obtain ⟨a, b, c⟩ := limL_ok h
  rw [a]
  exact ⟨by simpa using h1, by simpa using h2, rfl, b, c⟩
theorem removeP_ok {l : List Att} {name : Str} {v : List Str} (h : (removeP l name v).2 = 0) : nameB name = true ∧ getL l name ≠ [] ∧ ∃ o, (∀ x ∈ o, x ∈ getL l name) ∧ (removeP l name v).1 = setL (sortedL l) name o ∧ (v ≠ [] → o = (getL l name).filter fun x => !decide (x ∈ v)) := by
  unfold removeP at h ⊢
  split at h
  · simp at h
  rename_i h1
  split at h
  · simp at h
  rename_i h2
  rw [if_neg h1, if_neg h2]
  refine ⟨by simpa using h1, h2, ?_⟩
  split at h
  · rename_i h3
    rw [if_pos h3]
    exact ⟨[], by simp, rfl, fun hv => absurd h3 hv⟩
  · rename_i h3
    rw [if_neg h3]
    rcases remV_spec v (getL l name) (SS_getL l name).nodup with ⟨a, b⟩ | ⟨o, a, b, c⟩
    · rw [a] at h; simp [remO] at h
    · rw [a]
      exact ⟨o, fun x hx => by rw [c] at hx; exact (List.mem_filter.1 hx).1, rfl, fun _ => c⟩

theorem Valid.add {l : List Att} (h : Valid l) {name : Str} {v : List Str} (h0 : (addP l name v).2 = 0) : Valid (addP l name v).1 := by
  obtain ⟨h1, h2, h3, h4, h5, h6⟩ := addP_ok h0
  rw [h4] at h5 h6 ⊢
  refine h.set h1 (fun x hx => ?_) h5 h6
  rcases List.mem_append.1 hx with hx | hx
  · exact (h.has ((mem_getL l name x).1 hx)).2
  · exact (((chkV_zero _ _ _).1 h3).1 x hx).1
theorem Valid.replace {l : List Att} (h : Valid l) {name : Str} {v : List Str} (h0 : (replP l name v).2 = 0) : Valid (replP l name v).1 := by
  obtain ⟨h1, h3, h4, h5, h6⟩ := replP_ok h0
  rw [h4] at h5 h6 ⊢
  exact h.set h1 (fun x hx => (((chkV_zero _ _ _).1 h3).1 x hx).1) h5 h6
end Go.Proofs.Tz

/- Layer 13 (refint): apply of the statements' files. -/
set_option maxHeartbeats 8000000
namespace Go.Proofs.Tz
open Go.Vw Go.RowKit Go.Proofs Go.Sort

def apR (l : List Att) (m : Mod) : List Att × Int := if m.1 = 2 then removeP l m.2.1 m.2.2 else removeP l m.2.1 []
def apE (l : List Att) (r : List Att × Int) : List Att := if r.2 = 0 then r.1 else l
def apS (l : List Att) (m : Mod) : List Att := if m.1 = 3 ∧ m.2.2 ≠ [] then apE l (apR l m) ++ [(m.2.1, m.2.2)] else apE l (apR l m)
def applyU (l : List Att) (M : List Mod) : List Att := sortedL (M.foldl apS l)
def apK (l : List Att) (M : List Mod) (k : Nat) : List Att := (M.take k).foldl apS l
theorem apK_succ {l : List Att} {M : List Mod} {k : Nat} (h : k < M.length) : apK l M (k + 1) = apS (apK l M k) M[k] := by
  unfold apK; rw [take_s h, List.foldl_append]; rfl
structure BQ (k : Nat) (l : List Att) : Prop where
  len : l.length ≤ 100 + k
  tot : total l ≤ 1000 + 100 * k
  nm : ∀ t ∈ l, List.length t.1 ≤ 1000
theorem total_memG {l : List Att} {t : Att} (h : t ∈ l) : t.2.length ≤ total l := by
  induction l with
  | nil => simp at h
  | cons x l ih =>
    simp only [total, List.map_cons, List.sum_cons] at *
    rcases List.mem_cons.1 h with rfl | h
    · omega
    · have := ih h; omega
theorem total_appG (a b : List Att) : total (a ++ b) = total a + total b := by simp [total]
theorem BQ.sorted {l : List Att} {k : Nat} (h : BQ k l) : BQ k (sortedL l) := by
  refine ⟨Nat.le_trans (sorted_len l) h.len, Nat.le_trans (total_sorted l) h.tot, fun t ht => ?_⟩
  obtain ⟨y, hy, _, e⟩ := sorted_name ht
  rw [← e, lower_len]; exact h.nm y hy
theorem total_find (m : Str) : ∀ s : List Att, total (s.filter fun x => !decide (x.1 = m)) + (findA m s).length ≤ total s
  | [] => by simp [total, findA]
  | a :: s => by
    have h1 := total_find m s
    have h2 : total (s.filter fun x => !decide (x.1 = m)) ≤ total s := by omega
    rw [findA]
    by_cases e : a.1 = m
    · simp only [e, decide_true, Bool.not_true, if_true, List.filter_cons, Bool.false_eq_true, if_false]
      simp only [total, List.map_cons, List.sum_cons] at *
      omega
    · simp only [e, decide_false, Bool.not_false, if_true, List.filter_cons, if_false]
      simp only [total, List.map_cons, List.sum_cons] at *
      omega
theorem BQ.withO {l : List Att} {k : Nat} (h : BQ k l) {n : Str} {o : List Str} (hn : List.length n ≤ 1000) (ho : o.length ≤ (getL l n).length) : BQ (k + 1) (withP l n o) := by
  have hs := h.sorted
  have h1 := hs.len
  have h2 := total_find (lower n) (sortedL l)
  have h3 := hs.tot
  have h4 := List.length_filter_le (fun x : Att => !decide (x.1 = lower n)) (sortedL l)
  refine ⟨?_, ?_, fun t ht => ?_⟩
  · unfold withP; rw [List.length_append]; simp only [List.length_cons, List.length_nil]; omega
  · unfold withP; rw [total_appG]
    have : total [(lower n, o)] = o.length := by simp [total]
    rw [this]
    have e : getL l n = findA (lower n) (sortedL l) := rfl
    rw [e] at ho
    omega
  · unfold withP at ht
    rcases List.mem_append.1 ht with ht | ht
    · exact hs.nm t (List.mem_filter.1 ht).1
    · rw [List.mem_singleton.1 ht]; simp only; rw [lower_len]; exact hn
theorem BQ.fit {l : List Att} {k : Nat} (h : BQ k l) (hk : k ≤ 1000) : Fit2 l :=
  ⟨⟨by have := h.len; omega, fun t ht => ⟨by have := h.nm t ht; omega, by have := total_memG ht; have := h.tot; omega⟩⟩, by have := h.tot; omega⟩
theorem rem_o {l : List Att} {n : Str} {v o : List Str} (ho : o = [] ∨ remV (getL l n) v = some o) : o.length ≤ (getL l n).length := by
  rcases ho with rfl | ho
  · simp
  · rcases remV_spec v (getL l n) (SS_getL l n).nodup with ⟨a, _⟩ | ⟨o', a, _, c⟩
    · rw [a] at ho; cases ho
    · rw [a] at ho; cases ho
      rw [c]; exact List.length_filter_le _ _
theorem BQ.rem {l : List Att} {k : Nat} (h : BQ k l) {n : Str} {v : List Str} (hn : List.length n ≤ 1000) (h0 : (removeP l n v).2 = 0) : BQ (k + 1) (removeP l n v).1 := by
  obtain ⟨q1, q2, o, h3, h4, h5⟩ := removeP_ok h0
  by_cases hv : v = []
  · subst hv
    have e : (removeP l n []).1 = setL (sortedL l) n [] := by unfold removeP; simp [q1, q2]
    rw [e]
    exact (h.withO hn (o := []) (by simp)).sorted
  · rw [h4, h5 hv]
    exact (h.withO hn (List.length_filter_le _ _)).sorted
theorem BQ.mono {l : List Att} {k j : Nat} (h : BQ k l) (hk : k ≤ j) : BQ j l := ⟨by have := h.len; omega, by have := h.tot; omega, h.nm⟩
structure FitG (M : List Mod) : Prop where
  len : M.length ≤ 400
  nm : ∀ m ∈ M, List.length m.2.1 ≤ 1000
  val : ∀ m ∈ M, m.2.2.length ≤ 100
theorem BQ.step {l : List Att} {k : Nat} (h : BQ k l) {m : Mod} (hn : List.length m.2.1 ≤ 1000) (hv : m.2.2.length ≤ 100) : BQ (k + 2) (apS l m) := by
  have h1 : BQ (k + 1) (apE l (apR l m)) := by
    unfold apE
    split
    · rename_i h0
      unfold apR at h0 ⊢
      split
      · rename_i e; rw [if_pos e] at h0; exact h.rem hn h0
      · rename_i e; rw [if_neg e] at h0; exact h.rem hn h0
    · exact h.mono (by omega)
  unfold apS
  split
  · refine ⟨by have := h1.len; simp; omega, ?_, fun t ht => ?_⟩
    · rw [total_appG]
      have : total [(m.2.1, m.2.2)] = m.2.2.length := by simp [total]
      have := h1.tot
      omega
    · rcases List.mem_append.1 ht with ht | ht
      · exact h1.nm t ht
      · rw [List.mem_singleton.1 ht]; exact hn
  · exact h1.mono (by omega)
theorem apK_bq {l : List Att} (h : BQ 0 l) {M : List Mod} (hM : FitG M) : ∀ k, k ≤ M.length → BQ (2 * k) (apK l M k)
  | 0, _ => by simpa [apK] using h
  | k + 1, hk => by
    rw [apK_succ (by omega)]
    exact (apK_bq h hM k (by omega)).step (hM.nm _ (List.getElem_mem _)) (hM.val _ (List.getElem_mem _))
theorem rem_q {l : List Att} {k : Nat} (h : BQ k l) (hk : k ≤ 900) (n : Str) (v : List Str) (hn : List.length n ≤ 1000) (hv : v.length ≤ 100) :
    Ctr Tryz.prog 85 [.d (atts l), .d (.str n), .d (strs v)] (.tup [.d (atts (removeP l n v).1), .d (.int .i64 (removeP l n v).2)]) :=
  remove_fn l n v (h.fit (by omega)) (by have := h.len; omega) (by omega) (by omega) (fun o ho => (h.withO hn (rem_o ho)).fit (by omega))

def RgI (A : List Att) (M : List Mod) (k : Nat) (τ : St) : Prop := τ 0 = .d (atts (apK A M k)) ∧ τ 1 = .d (mods M) ∧ τ 5 = .d (.int .i64 k)
theorem apply2_fn (A : List Att) (hA : BQ 0 A) (M : List Mod) (hM : FitG M) (h2 : ∀ m ∈ M, m.1 = 2) : Ctr Tryz.prog 36 [.d (atts A), .d (mods M)] (.d (atts (applyU A M))) := by
  refine fn_of_vwp (fun i => i == 9000010 || i == 63 || i == 65) (by kernel_rfl) Tryz.func36 (by kernel_rfl) rfl rfl (Nat.le_of_ble_eq_true rfl) (by kernel_rfl) rfl rfl ?_
  have hmw : ∀ m : Mod, width (modD m) = 3 := fun _ => rfl
  have hML := hM.len
  simp -implicitDefEqProofs [atts, mods]
  refine loopN M.length (RgI A M) ⟨by simp [atts, apK], by simp [mods], by simp⟩ ?_
  rintro k τ hk ⟨g0, g1, g5⟩
  have hB := apK_bq hA hM k hk
  by_cases hlt : k < M.length
  · have hlt' : (k : Int) < M.length := by omega
    have hN := apK_succ (l := A) hlt
    have hn := hM.nm _ (List.getElem_mem hlt)
    have hv := hM.val _ (List.getElem_mem hlt)
    generalize hL2 : apK A M (k + 1) = L2 at *
    generalize apK A M k = L1 at *
    generalize hx : M[k] = m at *
    obtain ⟨kd, nm, vs⟩ := m
    have c1 := rem_q hB (by omega) nm [] hn (by simp)
    have c2 := rem_q hB (by omega) nm vs hn hv
    simp only [apS, apR] at hN
    simp only at hv
    simp only [strs, List.map_nil, atts] at c1 c2
    by_cases k2 : kd = 2
    · subst k2
      simp only [if_true, show ¬ ((2 : Int) = 3) by decide, false_and, if_false] at hN
      generalize removeP L1 nm [] = r1 at *
      generalize removeP L1 nm vs = r2 at *
      simp -implicitDefEqProofs [g0, g1, g5, hlt, hlt', hx, mods, modD, atts, strs, hmw]
      refine callK c1 ?_
      simp -implicitDefEqProofs [g0, g1, g5, hlt, hlt', hx, mods, modD, atts, strs, hmw]
      refine callP c2 ?_
      by_cases e0 : r2.2 = 0
      · simp only [apE, if_pos e0] at hN
        simp -implicitDefEqProofs [g0, g1, g5, hlt, hlt', hx, mods, modD, atts, strs, hmw, e0]
        repeat refine And.intro (by omega) ?_
        exact again hlt ⟨by simp [atts, hL2, hN], by simp [g1, mods], by simp⟩
      · simp only [apE, if_neg e0] at hN
        simp -implicitDefEqProofs [g0, g1, g5, hlt, hlt', hx, mods, modD, atts, strs, hmw, e0]
        repeat refine And.intro (by omega) ?_
        exact again hlt ⟨by simp [atts, hL2, hN, g0], by simp [g1, mods], by simp⟩
    · exact absurd (h2 _ (hx ▸ List.getElem_mem hlt)) k2
  · have hlt' : ¬ (k : Int) < M.length := by omega
    obtain rfl : k = M.length := by omega
    have hE : applyU A M = sortedL (apK A M M.length) := by unfold applyU apK; rw [List.take_length]
    have c1 := Ctr.asData (sorted_fn _ (hB.fit (by omega)))
    rw [hE]
    generalize apK A M M.length = L at *
    generalize sortedL L = S at *
    simp only [atts] at c1
    simp -implicitDefEqProofs [g0, g1, g5, hlt', mods, atts]
    refine callK c1 ?_
    simp -implicitDefEqProofs [atts]
end Go.Proofs.Tz

/- The statement RefintGone. -/
namespace Go.Proofs.Tz
open Go.Vw Go.RowKit Go.Proofs Go.Sort

theorem has_of {A : List Att} {a : Att} (ha : a ∈ sortedL A) (v : Str) : HasL A a.1 v ↔ v ∈ a.2 := by
  rw [← sorted_has]
  constructor
  · rintro ⟨x, hx, e, hv⟩
    rw [← nf_inj (nf_sorted A) hx ha e]; exact hv
  · intro hv; exact ⟨a, ha, rfl, hv⟩
theorem mem_refsU (s : Sch) (A : List Att) (x : Str) : x ∈ refsU s A ↔ ∃ m v, HasL A m v ∧ isNm s m = true ∧ refOf v = some x := by
  unfold refsU
  rw [(insAll_spec (refsL s A) [] List.Pairwise.nil).2 x]
  simp only [List.not_mem_nil, false_or, refsL, List.mem_flatMap, List.mem_filter, List.mem_filterMap]
  constructor
  · rintro ⟨a, ⟨ha, hn⟩, v, hv, hx⟩
    exact ⟨a.1, v, (has_of ha v).2 hv, hn, hx⟩
  · rintro ⟨m, v, hh, hn, hx⟩
    obtain ⟨a, ha, rfl, hv⟩ := (sorted_has A m v).2 hh
    exact ⟨a, ⟨ha, hn⟩, v, hv, hx⟩
theorem SS_refsU (s : Sch) (A : List Att) : SS (refsU s A) := (insAll_spec (refsL s A) [] List.Pairwise.nil).1

theorem gone_fold {A : List Att} (hv : Valid A) (n : Str) : ∀ (L2 L1 : List Att), (∀ a ∈ L1 ++ L2, a ∈ sortedL A) → ((L1 ++ L2).map (·.1)).Nodup →
    ∀ cur, (∀ m v, HasL cur m v ↔ HasL A m v ∧ ¬ (m ∈ L1.map (·.1) ∧ refOf v = some n)) →
    ∀ m v, HasL ((L2.filterMap (remA n)).foldl apS cur) m v ↔ HasL A m v ∧ ¬ (m ∈ (L1 ++ L2).map (·.1) ∧ refOf v = some n)
  | [], L1, _, _, cur, hc, m, v => by simpa using hc m v
  | a :: L2, L1, hs, hd, cur, hc, m, v => by
    have e : L1 ++ a :: L2 = (L1 ++ [a]) ++ L2 := by simp
    have ha : a ∈ sortedL A := hs a (by simp)
    have hla := sorted_low ha
    have hna : a.1 ∉ L1.map (·.1) := by
      intro hm
      rw [List.map_append, List.nodup_append] at hd
      exact hd.2.2 _ hm _ (by simp) rfl
    have hA := has_of ha
    have hcur : ∀ v, HasL cur a.1 v ↔ v ∈ a.2 := fun v => by rw [hc, hA]; simp only [hna, false_and, not_false_eq_true, and_true]
    rw [e]
    rw [List.filterMap_cons]
    unfold remA
    by_cases hf : (a.2.filter fun v => decide (refOf v = some n)) = []
    · simp only [hf, ne_eq, not_true_eq_false, if_false]
      refine gone_fold hv n L2 (L1 ++ [a]) (by rw [← e]; exact hs) (by rw [← e]; exact hd) cur (fun m v => ?_) m v
      rw [hc]
      refine and_congr_right fun hm => not_congr ?_
      simp only [List.map_append, List.map_cons, List.map_nil, List.mem_append, List.mem_singleton]
      constructor
      · rintro ⟨h1, h2⟩; exact ⟨.inl h1, h2⟩
      · rintro ⟨h1 | h1, h2⟩
        · exact ⟨h1, h2⟩
        · subst h1
          have : v ∈ a.2.filter fun v => decide (refOf v = some n) := List.mem_filter.2 ⟨(hA v).1 hm, by simpa using h2⟩
          rw [hf] at this; simp at this
    · simp only [hf, ne_eq, not_false_eq_true, if_true, List.foldl_cons]
      refine gone_fold hv n L2 (L1 ++ [a]) (by rw [← e]; exact hs) (by rw [← e]; exact hd) _ (fun m v => ?_) m v
      generalize hvs : (a.2.filter fun v => decide (refOf v = some n)) = vs at *
      have hmv : ∀ x, x ∈ vs ↔ x ∈ a.2 ∧ refOf x = some n := fun x => by rw [← hvs, List.mem_filter]; simp
      have hget : ∀ x, x ∈ getL cur a.1 ↔ x ∈ a.2 := fun x => by rw [mem_getL, hla, hcur]
      obtain ⟨u, hu⟩ := List.exists_mem_of_ne_nil _ hf
      have hua := ((hmv u).1 hu).1
      have hnm : nameB a.1 = true := (hv.has ((hA u).2 hua)).1
      have hg0 : getL cur a.1 ≠ [] := List.ne_nil_of_mem ((hget u).2 hua)
      have hvn : vs.Nodup := by rw [← hvs]; exact ((nf_sorted A).vals a ha).nodup.sublist List.filter_sublist
      have hr : removeP cur a.1 vs = (setL (sortedL cur) a.1 ((getL cur a.1).filter fun x => !decide (x ∈ vs)), 0) := by
        rcases remV_spec vs (getL cur a.1) (SS_getL cur a.1).nodup with ⟨_, h2⟩ | ⟨o, h1, _, h3⟩
        · exact absurd ⟨fun x hx => (hget x).2 ((hmv x).1 hx).1, hvn⟩ h2
        · unfold removeP
          rw [if_neg (by simp [hnm]), if_neg hg0, if_neg hf, h1, h3]
          rfl
      have hst : apS cur (2, a.1, vs) = setL (sortedL cur) a.1 ((getL cur a.1).filter fun x => !decide (x ∈ vs)) := by
        unfold apS apE apR
        simp only [if_true, show ¬ ((2 : Int) = 3) by decide, false_and, if_false, hr]
      rw [hst, hasL_set, hla]
      simp only [List.mem_filter, hget, hmv, List.map_append, List.map_cons, List.map_nil, List.mem_append, List.mem_singleton, hc]
      by_cases em : m = a.1
      · subst em
        simp only [ne_eq, not_true_eq_false, false_and, true_and, false_or, or_true, hA, Bool.not_eq_true', decide_eq_false_iff_not]
        constructor
        · rintro ⟨h1, h2⟩; exact ⟨h1, fun h3 => h2 ⟨h1, h3⟩⟩
        · rintro ⟨h1, h2⟩; exact ⟨h1, fun h3 => h2 h3.2⟩
      · simp only [em, ne_eq, not_false_eq_true, true_and, false_and, or_false]
theorem gone_has {A : List Att} (hv : Valid A) (s : Sch) {to n : Str} (hn : refOf to = some n) (m v : Str) : HasL (applyU A (removedU s A to)) m v ↔ HasL A m v ∧ ¬ (isNm s m = true ∧ refOf v = some n) := by
  unfold applyU removedU
  rw [hn, hasL_sorted]
  simp only
  have hd := (nf_sorted A).names.nodup
  have h := gone_fold hv n ((sortedL A).filter fun a => isNm s a.1) [] (fun a ha => (List.mem_filter.1 (show a ∈ (sortedL A).filter (fun a => isNm s a.1) from ha)).1) (by simpa using hd.sublist (List.filter_sublist.map _)) A (by simp) m v
  rw [h]
  refine and_congr_right fun hm => not_congr (and_congr_left fun _ => ?_)
  simp only [List.nil_append, List.mem_map, List.mem_filter]
  constructor
  · rintro ⟨a, ⟨_, h1⟩, rfl⟩; exact h1
  · intro h1
    obtain ⟨a, ha, rfl, _⟩ := (sorted_has A m v).2 hm
    exact ⟨a, ⟨ha, h1⟩, rfl⟩
theorem gone_law {A : List Att} (hv : Valid A) (s : Sch) {to n : Str} (hn : refOf to = some n) : refsU s (applyU A (removedU s A to)) = (refsU s A).filter fun x => !decide (x = n) := by
  refine SS_ext (SS_refsU s _) ((SS_refsU s A).filter _) fun x => ?_
  rw [mem_refsU, List.mem_filter, mem_refsU]
  simp only [gone_has hv s hn, Bool.not_eq_true', decide_eq_false_iff_not]
  constructor
  · rintro ⟨m, v, ⟨h1, h2⟩, h3, h4⟩
    exact ⟨⟨m, v, h1, h3, h4⟩, fun e => h2 ⟨h3, e ▸ h4⟩⟩
  · rintro ⟨⟨m, v, h1, h3, h4⟩, h5⟩
    exact ⟨m, v, ⟨h1, fun h6 => h5 (by rw [h4] at h6; simpa using h6.2)⟩, h3, h4⟩
end Go.Proofs.Tz

namespace Go.Proofs.Tz
open Go.Vw

theorem fits_str {d : D} (h : Sh.Fits .str d) : ∃ s : Str, d = .str s := by
  simp only [Sh.Fits] at h
  obtain ⟨s, rfl, _⟩ := h
  exact ⟨s, rfl⟩
theorem fits_list {α : Type} {s : Sh} (g : α → D) (hs : ∀ d, Sh.Fits s d → ∃ a, d = g a) {d : D} (h : Sh.Fits (.sl s) d) : ∃ l : List α, d = .sl (l.map g) := by
  simp only [Sh.Fits] at h
  obtain ⟨ds, rfl, _, h⟩ := h
  have : ∀ ds : List D, (∀ x ∈ ds, Sh.Fits s x) → ∃ l : List α, ds = l.map g := by
    intro ds
    induction ds with
    | nil => intro _; exact ⟨[], rfl⟩
    | cons x ds ih =>
      intro h
      obtain ⟨a, rfl⟩ := hs x (h x (by simp))
      obtain ⟨l, rfl⟩ := ih fun y hy => h y (by simp [hy])
      exact ⟨a :: l, rfl⟩
  obtain ⟨l, rfl⟩ := this ds h
  exact ⟨l, rfl⟩
theorem fits_strs {d : D} (h : Sh.Fits (.sl .str) d) : ∃ l : List Str, d = strs l := fits_list _ (fun _ h => fits_str h) h
theorem fits_att {d : D} (h : Sh.Fits (.agg [.str, .sl .str]) d) : ∃ a : Att, d = att a := by
  simp only [Sh.Fits, Sh.FitsL] at h
  obtain ⟨ds, rfl, x, xs, rfl, ⟨s, rfl, _⟩, y, ys, rfl, hy, rfl⟩ := h
  obtain ⟨l, rfl⟩ := fits_strs (d := y) (by simp only [Sh.Fits]; exact hy)
  exact ⟨(s, l), rfl⟩
theorem fits_atts {d : D} (h : Sh.Fits (.sl (.agg [.str, .sl .str])) d) : ∃ l : List Att, d = atts l := fits_list _ (fun _ h => fits_att h) h

end Go.Proofs.Tz

/- The statements about references: their own form. -/
namespace Go.Proofs.Tz
open Go.Vw Go.RowKit Go.Proofs

theorem fits_ty {d : D} (h : Sh.Fits (.agg [.str, .int .i64, .bool]) d) : ∃ x : Ty, d = tyD x := by
  simp only [Sh.Fits, Sh.FitsL] at h
  obtain ⟨ds, rfl, x, xs, rfl, ⟨s, rfl, _⟩, y, ys, rfl, ⟨i, rfl, _⟩, z, zs, rfl, ⟨b, rfl⟩, rfl⟩ := h
  exact ⟨(s, i, b), rfl⟩
theorem fits_cl {d : D} (h : Sh.Fits (.agg [.str, .str, .sl (.str), .sl (.str)]) d) : ∃ x : Cl, d = clD x := by
  simp only [Sh.Fits, Sh.FitsL] at h
  obtain ⟨ds, rfl, x, xs, rfl, ⟨s, rfl, _⟩, y, ys, rfl, ⟨t, rfl, _⟩, z, zs, rfl, hz, q, qs, rfl, hq, rfl⟩ := h
  obtain ⟨l, rfl⟩ := fits_strs (by simpa only [Sh.Fits, Sh.FitsL] using hz)
  obtain ⟨m, rfl⟩ := fits_strs (by simpa only [Sh.Fits, Sh.FitsL] using hq)
  exact ⟨(s, t, l, m), rfl⟩
theorem fits_sch {d : D} (h : Sh.Fits (.agg [.sl (.agg [.str, .int .i64, .bool]), .sl (.agg [.str, .str, .sl (.str), .sl (.str)])]) d) : ∃ x : Sch, d = schD x := by
  have h' : ∃ ds, d = .agg ds ∧ ∃ x xs, ds = x :: xs ∧ Sh.Fits (.sl (.agg [.str, .int .i64, .bool])) x ∧ ∃ y ys, xs = y :: ys ∧ Sh.Fits (.sl (.agg [.str, .str, .sl (.str), .sl (.str)])) y ∧ ys = [] := by
    rw [Sh.Fits] at h
    obtain ⟨ds, rfl, h⟩ := h
    rw [Sh.FitsL] at h
    obtain ⟨x, xs, rfl, h1, h⟩ := h
    rw [Sh.FitsL] at h
    obtain ⟨y, ys, rfl, h2, h⟩ := h
    rw [Sh.FitsL] at h
    exact ⟨_, rfl, x, _, rfl, h1, y, _, rfl, h2, h⟩
  obtain ⟨ds, rfl, x, xs, rfl, h1, y, ys, rfl, h2, rfl⟩ := h'
  obtain ⟨T, rfl⟩ := fits_list tyD (fun _ h => fits_ty h) h1
  obtain ⟨C, rfl⟩ := fits_list clD (fun _ h => fits_cl h) h2
  exact ⟨(T, C), rfl⟩
theorem fits_ent {d : D} (h : Sh.Fits (.agg [.str, .sl (.agg [.str, .sl (.str)])]) d) : ∃ x : Ent, d = entD x := by
  simp only [Sh.Fits, Sh.FitsL] at h
  obtain ⟨ds, rfl, x, xs, rfl, ⟨s, rfl, _⟩, y, ys, rfl, hy, rfl⟩ := h
  obtain ⟨l, rfl⟩ := fits_atts (by simpa only [Sh.Fits, Sh.FitsL] using hy)
  exact ⟨(s, l), rfl⟩
theorem lim_strs {R : Nat} {l : List Str} (h : D.lim R (strs l)) : l.length ≤ R ∧ ∀ s ∈ l, List.length s ≤ R := by
  simp only [strs, D.lim, D.lims_mem, List.length_map, List.mem_map] at h
  exact ⟨h.1, fun s hs => by simpa [D.lim] using h.2 _ ⟨s, hs, rfl⟩⟩
theorem fitSch_of {s : Sch} (h : D.lim 140737488351232 (schD s)) : FitSch s := by
  obtain ⟨T, C⟩ := s
  simp only [schD, D.lim, D.lims] at h
  obtain ⟨⟨h1, h2⟩, ⟨h3, h4⟩, _⟩ := h
  rw [D.lims_mem] at h2 h4
  simp only [List.length_map] at h1 h3
  refine ⟨h1, h3, fun t ht => ?_, fun c hc => ?_⟩
  · have := h2 _ (List.mem_map.2 ⟨t, ht, rfl⟩)
    simp only [tyD, D.lim, D.lims] at this
    exact this.1
  · have := h4 _ (List.mem_map.2 ⟨c, hc, rfl⟩)
    simp only [clD, D.lim, D.lims] at this
    obtain ⟨q1, q2, q3, q4, _⟩ := this
    exact ⟨q1, q2, lim_strs q3, lim_strs q4⟩
end Go.Proofs.Tz

/- The statement RefintGone: the walk. -/
set_option maxHeartbeats 16000000
namespace Go.Proofs.Tz
open Go.Vw Go.RowKit Go.Proofs Go.Sort

theorem entB_bq {e : Ent} (h : entB e = true) : BQ 0 e.2 ∧ total e.2 ≤ 64 ∧ (∀ a ∈ e.2, List.length a.1 ≤ 300 ∧ ∀ v ∈ a.2, List.length v ≤ 300) := by
  unfold entB at h
  simp only [Bool.and_eq_true, decide_eq_true_eq, List.all_eq_true] at h
  obtain ⟨h1, h2, h3⟩ := h
  have hv : ∀ a ∈ e.2, List.length a.1 ≤ 300 ∧ a.2.length ≤ 8 ∧ ∀ v ∈ a.2, List.length v ≤ 300 := fun a ha => by
    have := h3 a ha
    simp only [attB, shB, Bool.and_eq_true, decide_eq_true_eq, List.all_eq_true] at this
    exact this
  have htot : ∀ l : List Att, (∀ a ∈ l, a.2.length ≤ 8) → total l ≤ l.length * 8 := by
    intro l
    induction l with
    | nil => intro _; simp [total]
    | cons a l ih =>
      intro h
      have h1 := h a (by simp)
      have h2 := ih (fun b hb => h b (by simp [hb]))
      have : total (a :: l) = a.2.length + total l := by simp [total]
      simp only [List.length_cons]
      omega
  have := htot e.2 (fun a ha => (hv a ha).2.1)
  exact ⟨⟨by omega, by omega, fun a ha => by have := (hv a ha).1; omega⟩, by omega, fun a ha => ⟨(hv a ha).1, (hv a ha).2.2⟩⟩
theorem removed_fitG {e : Ent} (h : entB e = true) (s : Sch) (to : Str) : FitG (removedU s e.2 to) ∧ ∀ m ∈ removedU s e.2 to, m.1 = 2 := by
  obtain ⟨h1, h2, h3⟩ := entB_bq h
  have hs := h1.sorted
  have ht := total_sorted e.2
  have hl := sorted_len e.2
  have hl0 := h1.len
  unfold removedU
  split
  · exact ⟨⟨by simp, by simp, by simp⟩, by simp⟩
  · rename_i n _
    have key : ∀ m, m ∈ ((sortedL e.2).filter fun a => isNm s a.1).filterMap (remA n) → ∃ a ∈ sortedL e.2, m.1 = 2 ∧ m.2.1 = a.1 ∧ m.2.2.length ≤ a.2.length := fun m hm => by
      obtain ⟨a, ha, hfa⟩ := List.mem_filterMap.1 hm
      refine ⟨a, (List.mem_filter.1 ha).1, ?_⟩
      unfold remA at hfa
      split at hfa
      · simp only [Option.some.injEq] at hfa
        subst hfa
        exact ⟨rfl, rfl, List.length_filter_le _ _⟩
      · cases hfa
    refine ⟨⟨?_, fun m hm => ?_, fun m hm => ?_⟩, fun m hm => ?_⟩
    · have h5 := List.length_filterMap_le (remA n) ((sortedL e.2).filter fun a => isNm s a.1)
      have h6 := List.length_filter_le (fun a : Att => isNm s a.1) (sortedL e.2)
      omega
    · obtain ⟨a, ha, _, e1, _⟩ := key m hm
      rw [e1]; exact hs.nm a ha
    · obtain ⟨a, ha, _, _, e1⟩ := key m hm
      have := total_memG ha
      omega
    · obtain ⟨a, ha, e1, _⟩ := key m hm
      exact e1
theorem gone_fitR {e : Ent} (h : entB e = true) (hv : Valid e.2) (s : Sch) {to n : Str} (hn : refOf to = some n) : FitR (applyU e.2 (removedU s e.2 to)) := by
  obtain ⟨h1, h2, h3⟩ := entB_bq h
  obtain ⟨h4, h5⟩ := removed_fitG h s to
  have hB := apK_bq h1 h4 _ (Nat.le_refl _)
  unfold apK at hB
  rw [List.take_length] at hB
  have hl := h4.len
  refine ⟨hB.sorted.fit (by omega), fun a ha v hva => ?_⟩
  have hh : HasL (applyU e.2 (removedU s e.2 to)) a.1 v := by
    unfold applyU at ha ⊢
    rw [hasL_sorted]
    exact (has_of ha v).2 hva
  obtain ⟨b, hb, _, hvb⟩ := ((gone_has hv s hn a.1 v).1 hh).1
  have := (h3 b hb).2 v hvb
  omega
def GnI (R B : List Str) (n : Str) (k : Nat) (τ : St) : Prop := τ 9 = .d (strs R) ∧ τ 10 = .d (strs B) ∧ τ 7 = .d (.str n) ∧ τ 12 = .d (.int .i64 k) ∧ τ 11 = .own false 9 (((R.take k).filter fun x => !decide (x = n)).map .str)
theorem law7_fn (s : Sch) (hs : FitSch s) (e : Ent) (to : Str) : Ctr Tryz.prog 7 [.d (schD s), .d (entD e), .d (.str to)] (.d (.bool true)) := by
  refine fn_of_vwp (fun _ => false) (by kernel_rfl) Tryz.func7 (by kernel_rfl) rfl rfl (Nat.le_of_ble_eq_true rfl) (by kernel_rfl) rfl rfl ?_
  have c1 := light_fn s [e]
  have cA := awake_fn
  have hsd : schD s = .agg [.sl (s.1.map tyD), .sl (s.2.map clD)] := rfl
  obtain ⟨L, hL⟩ : ∃ L, lgtB s [e] = L := ⟨_, rfl⟩
  rw [hL] at c1
  simp only [entsD, List.map_cons, List.map_nil] at c1
  cases L with
  | false =>
    rw [hsd] at c1 ⊢
    obtain ⟨n, A⟩ := e
    simp only [entD, atts] at c1 ⊢
    simp -implicitDefEqProofs
    refine callK c1 ?_
    simp -implicitDefEqProofs
    refine callK cA ?_
    simp -implicitDefEqProofs
  | true =>
  by_cases h2 : List.length to ≤ 300
  case neg =>
    have h2' : (300 : Int) < List.length to := by omega
    rw [hsd] at c1 ⊢
    obtain ⟨n, A⟩ := e
    simp only [entD, atts] at c1 ⊢
    simp -implicitDefEqProofs
    refine callK c1 ?_
    simp -implicitDefEqProofs [h2']
    refine callK cA ?_
    simp -implicitDefEqProofs
  have h2' : ¬ (300 : Int) < List.length to := by omega
  have hE := lgtB_one hL
  obtain ⟨hf, hnm⟩ := entB_fit hE
  have c2 := ncleanR_fn to (by omega)
  have c3 := check_fn e.2 hf.1.1 (fun a ha v hv => by have := hf.2 a ha v hv; omega)
  have hro : refOf to = if (cleanU to).2 = 0 ∧ (cleanU to).1 ≠ [] then some (cleanU to).1 else none := rfl
  generalize cleanU to = C at *
  obtain ⟨n, f⟩ := C
  simp only at hro c2
  by_cases k1 : f = 0
  case neg =>
    rw [hsd] at c1 ⊢
    obtain ⟨nm, A⟩ := e
    simp only [entD, atts] at c1 c3 ⊢
    simp -implicitDefEqProofs
    refine callK c1 ?_
    simp -implicitDefEqProofs [h2']
    refine callK c2 ?_
    simp -implicitDefEqProofs [k1]
    refine callK cA ?_
    simp -implicitDefEqProofs
  by_cases k2 : n = []
  case pos =>
    rw [hsd] at c1 ⊢
    obtain ⟨nm, A⟩ := e
    simp only [entD, atts] at c1 c3 ⊢
    simp -implicitDefEqProofs
    refine callK c1 ?_
    simp -implicitDefEqProofs [h2']
    refine callK c2 ?_
    simp -implicitDefEqProofs [k1, k2]
    refine callK cA ?_
    simp -implicitDefEqProofs
  by_cases k3 : checkL e.2 = 0
  case neg =>
    rw [hsd] at c1 ⊢
    obtain ⟨nm, A⟩ := e
    simp only [entD, atts] at c1 c3 k3 ⊢
    simp -implicitDefEqProofs
    refine callK c1 ?_
    simp -implicitDefEqProofs [h2']
    refine callK c2 ?_
    simp -implicitDefEqProofs [k1, k2]
    refine callK c3 ?_
    simp -implicitDefEqProofs [k3]
    refine callK cA ?_
    simp -implicitDefEqProofs
  rw [k3] at c3
  have hV := (check_iff _).1 k3
  rw [if_pos ⟨k1, k2⟩] at hro
  subst k1
  have d1 := refs_fn s e hs hf
  have d2 := removed_fn s hs e hf to (by omega)
  obtain ⟨hg1, hg2⟩ := removed_fitG hE s to
  have d3 := apply2_fn e.2 (entB_bq hE).1 _ hg1 hg2
  have d4 := refs_fn s (e.1, applyU e.2 (removedU s e.2 to)) hs (gone_fitR hE hV s hro)
  have hlaw := gone_law hV s hro
  simp only [hlaw] at d4
  have hrl := refsU_len s hf
  have hfl := List.length_filter_le (fun x => !decide (x = n)) (refsU s e.2)
  have d5 := same_fn ((refsU s e.2).filter fun x => !decide (x = n)) ((refsU s e.2).filter fun x => !decide (x = n)) (by omega) (by omega)
  rw [decide_eq_true rfl] at d5
  clear hlaw hg1 hg2 hV hro hE hf hnm k3 hL
  generalize applyU e.2 (removedU s e.2 to) = B at *
  generalize removedU s e.2 to = M at *
  generalize refsU s e.2 = R at *
  rw [hsd] at c1 d1 d2 d4 ⊢
  obtain ⟨nm, A⟩ := e
  obtain ⟨X, hX⟩ : ∃ X, X = R.filter fun x => !decide (x = n) := ⟨_, rfl⟩
  rw [← hX] at d4 d5
  simp only [entD, atts, strs, mods] at c1 c3 d1 d2 d3 d4 d5 ⊢
  simp -implicitDefEqProofs
  refine callK c1 ?_
  simp -implicitDefEqProofs [h2']
  refine callK c2 ?_
  simp -implicitDefEqProofs [k2]
  refine callK c3 ?_
  simp -implicitDefEqProofs
  refine callK d1 ?_
  simp -implicitDefEqProofs
  refine callP d2 ?_
  simp -implicitDefEqProofs
  refine callP d3 ?_
  simp -implicitDefEqProofs
  refine callP d4 ?_
  simp -implicitDefEqProofs
  clear c1 c2 c3 d1 d2 d3 d4
  refine loopN R.length (GnI R X n) ⟨by simp [strs], by simp [strs], by simp, by simp, by simp⟩ ?_
  rintro k τ hk ⟨g9, g10, g7, g12, g11⟩
  have hlen : ((R.take k).filter fun x => !decide (x = n)).length ≤ k := Nat.le_trans (List.length_filter_le _ _) (by simp; omega)
  by_cases hlt : k < R.length
  · have hlt' : (k : Int) < R.length := by omega
    have hN : (R.take (k + 1)).filter (fun x => !decide (x = n)) = ((R.take k).filter fun x => !decide (x = n)) ++ (if R[k] = n then [] else [R[k]]) := by
      rw [take_s hlt, filter_snoc]; by_cases hb : R[k] = n <;> simp [hb]
    generalize hx : R[k] = x at *
    generalize (R.take k).filter (fun x => !decide (x = n)) = W at *
    generalize hW2 : (R.take (k + 1)).filter (fun x => !decide (x = n)) = W2 at *
    by_cases hb : x = n
    · rw [if_pos hb, List.append_nil] at hN
      simp -implicitDefEqProofs [g9, g10, g7, g12, g11, hlt, hlt', hx, strs, hb]
      repeat refine And.intro (by omega) ?_
      exact again hlt ⟨by simp [g9, strs], by simp [g10, strs], by simp [g7], by simp, by simp [hW2, hN, g11]⟩
    · rw [if_neg hb] at hN
      simp -implicitDefEqProofs [g9, g10, g7, g12, g11, hlt, hlt', hx, strs, hb]
      repeat refine And.intro (by omega) ?_
      exact again hlt ⟨by simp [g9, strs], by simp [g10, strs], by simp [g7], by simp, by simp [hW2, hN]⟩
  · have hlt' : ¬ (k : Int) < R.length := by omega
    obtain rfl : k = R.length := by omega
    rw [List.take_length, ← hX] at g11
    simp -implicitDefEqProofs [g9, g10, g7, g12, g11, hlt', strs]
    refine callK d5 ?_
    simp -implicitDefEqProofs
    refine callK cA ?_
    simp -implicitDefEqProofs
theorem RefintGone_ok (s : Sch) (e : Ent) (to : Str) (hb : D.lims 140737488351232 [schD s, entD e, .str to]) : Ctr Tryz.prog 7 [.d (schD s), .d (entD e), .d (.str to)] (.d (.bool true)) :=
  law7_fn s (fitSch_of hb.1) e to
end Go.Proofs.Tz
