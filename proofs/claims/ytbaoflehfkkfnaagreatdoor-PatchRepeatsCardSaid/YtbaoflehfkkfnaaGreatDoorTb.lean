/-
  What the functions that the statements about layer 46 (patch, repeats) reach compute, part 2 of 4: contracts and plain laws, for lists and strings of bounded size (each theorem states its bound).
-/
import Derived.Test.YtbaoflehfkkfnaaGreatDoorTa
import Derived.WalkKit
import Derived.Lib.Builder
import Derived.Lib.UnsafeStr
import Derived.Laws.Externs
import Derived.RegionTactic
import Derived.Test.YtbaoflehfkkfnaaGreatDoorWc
import Derived.Lib.Bytealg

set_option linter.unusedSimpArgs false
set_option linter.unusedVariables false

namespace Go.Proofs.Tz
open Go.Vw Go.Lib
set_option linter.unusedSimpArgs false

theorem nodup_sub_len {α : Type} [DecidableEq α] : ∀ {a b : List α}, a.Nodup → (∀ x ∈ a, x ∈ b) → a.length ≤ b.length
  | [], _, _, _ => Nat.zero_le _
  | x :: a, b, hn, hs => by
    have hp := List.nodup_cons.1 hn
    have hx := hs x (by simp)
    have ih := nodup_sub_len (a := a) (b := b.erase x) hp.2 fun y hy => (List.mem_erase_of_ne (fun e : y = x => hp.1 (e ▸ hy))).2 (hs y (by simp [hy]))
    rw [List.length_erase_of_mem hx] at ih
    have := List.length_pos_of_mem hx
    simp only [List.length_cons]; omega

theorem isLetter_low (c : UInt8) : isLetter (lowc c) = isLetter c := by
  by_cases h : 65 ≤ (c.toNat : Int) ∧ (c.toNat : Int) ≤ 90
  · have e := lowc_toNat c h.1 h.2
    have h1 : isLetter c = true := by simp only [isLetter, Bool.or_eq_true, Bool.and_eq_true, decide_eq_true_eq]; omega
    have h2 : isLetter (lowc c) = true := by simp only [isLetter, Bool.or_eq_true, Bool.and_eq_true, decide_eq_true_eq]; omega
    rw [h1, h2]
  · rw [lowc, if_neg h]
theorem nameC_low (c : UInt8) : nameC (lowc c) = nameC c := by
  by_cases h : 65 ≤ (c.toNat : Int) ∧ (c.toNat : Int) ≤ 90
  · have e := lowc_toNat c h.1 h.2
    have h1 : isLetter c = true := by simp only [isLetter, Bool.or_eq_true, Bool.and_eq_true, decide_eq_true_eq]; omega
    rw [nameC, nameC, isLetter_low, h1]; simp
  · rw [lowc, if_neg h]
theorem nameB_low (s : Str) : nameB (lower s) = nameB s := by
  have h1 : (lower s).head?.any isLetter = s.head?.any isLetter := by
    cases s with
    | nil => rfl
    | cons c s => simp [lower, isLetter_low]
  have h2 : (lower s).all nameC = s.all nameC := by
    rw [Bool.eq_iff_iff, List.all_eq_true, List.all_eq_true]
    simp only [lower, List.mem_map, forall_exists_index, and_imp, forall_apply_eq_imp_iff₂, nameC_low]
  rw [nameB, nameB, h1, h2, lower_len]

theorem chkA_zero : ∀ (l b : List Att), chkA b l = 0 ↔ (∀ a ∈ l, nameB a.1 = true ∧ (∀ c ∈ b, lower c.1 ≠ lower a.1) ∧ a.2 ≠ [] ∧ a.2.length ≤ 16 ∧ chkV [] [] a.2 = 0) ∧ (l.map fun a => lower a.1).Nodup
  | [], b => by simp [chkA]
  | a :: l, b => by
    rw [chkA]
    by_cases h1 : nameB a.1 = false
    · simp [h1]
    have h1' : nameB a.1 = true := by simpa using h1
    rw [if_neg h1]
    by_cases h2 : (b.any fun c => decide (lower c.1 = lower a.1)) = true
    · rw [if_pos h2]
      obtain ⟨c, hc, he⟩ := List.any_eq_true.1 h2
      constructor
      · intro h; simp at h
      · rintro ⟨h, _⟩
        exact absurd (by simpa using he) ((h a (by simp)).2.1 c hc)
    have h2' : ∀ c ∈ b, lower c.1 ≠ lower a.1 := fun c hc e => h2 (List.any_eq_true.2 ⟨c, hc, by simpa using e⟩)
    rw [if_neg h2]
    by_cases h3 : a.2.length = 0
    · rw [if_pos h3]
      have : a.2 = [] := List.length_eq_zero_iff.1 h3
      simp [this]
    have h3' : a.2 ≠ [] := fun e => h3 (by rw [e]; rfl)
    rw [if_neg h3]
    by_cases h4 : 16 < a.2.length
    · rw [if_pos h4]
      constructor
      · intro h; simp at h
      · rintro ⟨h, _⟩
        have := (h a (by simp)).2.2.2.1
        omega
    rw [if_neg h4]
    by_cases h5 : chkV [] [] a.2 ≠ 0
    · rw [if_pos h5]
      constructor
      · intro h; exact absurd h h5
      · rintro ⟨h, _⟩
        exact absurd (h a (by simp)).2.2.2.2 h5
    have h5' : chkV [] [] a.2 = 0 := by simpa using h5
    rw [if_neg h5, chkA_zero l (b ++ [a])]
    simp only [List.mem_cons, forall_eq_or_imp, List.mem_append, List.mem_nil_iff, or_false, List.map_cons, List.nodup_cons]
    constructor
    · rintro ⟨g1, g2⟩
      refine ⟨⟨⟨h1', h2', h3', by omega, h5'⟩, fun x hx => ⟨(g1 x hx).1, fun c hc => (g1 x hx).2.1 c (.inl hc), (g1 x hx).2.2⟩⟩, fun hm => ?_, g2⟩
      obtain ⟨x, hx, e⟩ := List.mem_map.1 hm
      exact (g1 x hx).2.1 a (.inr rfl) e.symm
    · rintro ⟨⟨_, g1⟩, g2, g3⟩
      refine ⟨fun x hx => ⟨(g1 x hx).1, fun c hc => ?_, (g1 x hx).2.2⟩, g3⟩
      rcases hc with hc | rfl
      · exact (g1 x hx).2.1 c hc
      · exact fun e => g2 (List.mem_map.2 ⟨x, hx, e.symm⟩)

structure Valid (l : List Att) : Prop where
  len : l.length ≤ 32
  each : ∀ a ∈ l, nameB a.1 = true ∧ a.2 ≠ [] ∧ a.2.length ≤ 16 ∧ ∀ v ∈ a.2, cleanB v = true
  nod : ∀ a ∈ l, a.2.Nodup
  names : (l.map fun a => lower a.1).Nodup
theorem check_iff (l : List Att) : checkL l = 0 ↔ Valid l := by
  rw [checkL]
  by_cases h : 32 < l.length
  · rw [if_pos h]
    constructor
    · intro h; simp at h
    · intro v; have := v.len; omega
  · rw [if_neg h, chkA_zero]
    constructor
    · rintro ⟨h1, h2⟩
      exact ⟨by omega, fun a ha => ⟨(h1 a ha).1, (h1 a ha).2.2.1, (h1 a ha).2.2.2.1, fun v hv => (((chkV_zero [] a.2 []).1 (h1 a ha).2.2.2.2).1 v hv).1⟩, fun a ha => ((chkV_zero [] a.2 []).1 (h1 a ha).2.2.2.2).2, h2⟩
    · intro v
      exact ⟨fun a ha => ⟨(v.each a ha).1, by simp, (v.each a ha).2.1, (v.each a ha).2.2.1, (chkV_zero [] a.2 []).2 ⟨fun x hx => ⟨(v.each a ha).2.2.2 x hx, by simp, by simp⟩, v.nod a ha⟩⟩, v.names⟩
theorem valid_sorted {r : List Att} (h1 : (sortedL r).length ≤ 32) (h2 : ∀ n v, HasL r n v → nameB n = true ∧ cleanB v = true) (h3 : ∀ n, (getL r n).length ≤ 16) : Valid (sortedL r) := by
  have hN := nf_sorted r
  refine ⟨h1, fun x hx => ?_, fun x hx => (hN.vals x hx).nodup, ?_⟩
  · have hne := hN.ne x hx
    have hin : ∀ v ∈ x.2, HasL r x.1 v := fun v hv => (sorted_has r x.1 v).1 ⟨x, hx, rfl, hv⟩
    obtain ⟨v, hv⟩ := List.exists_mem_of_ne_nil _ hne
    refine ⟨(h2 _ _ (hin v hv)).1, hne, ?_, fun u hu => (h2 _ _ (hin u hu)).2⟩
    have e : getL r x.1 = x.2 := SS_ext (SS_getL _ _) (hN.vals x hx) fun u => by
      rw [mem_getL, sorted_low hx]
      constructor
      · intro h
        obtain ⟨y, hy, e, hu⟩ := (sorted_has r x.1 u).2 h
        rw [← nf_inj hN hy hx e]; exact hu
      · exact hin u
    rw [← e]; exact h3 x.1
  · have : ((sortedL r).map fun a => lower a.1) = (sortedL r).map (·.1) := List.map_congr_left fun x hx => sorted_low hx
    rw [this]
    exact hN.names.nodup
theorem Valid.get {l : List Att} (h : Valid l) (n : Str) : (getL l n).length ≤ 16 := by
  by_cases he : getL l n = []
  · simp [he]
  obtain ⟨v, hv⟩ := List.exists_mem_of_ne_nil _ he
  obtain ⟨a, ha, ea, _⟩ := (mem_getL l n v).1 hv
  refine Nat.le_trans (nodup_sub_len (SS_getL l n).nodup fun u hu => ?_) (h.each a ha).2.2.1
  obtain ⟨b, hb, eb, hu⟩ := (mem_getL l n u).1 hu
  have : b = a := by
    obtain ⟨i, hi, rfl⟩ := List.mem_iff_getElem.1 ha
    obtain ⟨j, hj, rfl⟩ := List.mem_iff_getElem.1 hb
    have := nodup_inj h.names (i := i) (j := j) (by simpa using hi) (by simpa using hj) (by simp [ea, eb])
    subst this; rfl
  rw [← this]; exact hu
theorem Valid.has {l : List Att} (h : Valid l) {n v : Str} (hh : HasL l n v) : nameB n = true ∧ cleanB v = true := by
  obtain ⟨a, ha, rfl, hv⟩ := hh
  exact ⟨by rw [nameB_low]; exact (h.each a ha).1, (h.each a ha).2.2.2 v hv⟩
theorem Valid.sorted {l : List Att} (h : Valid l) : Valid (sortedL l) :=
  valid_sorted (Nat.le_trans (sorted_len l) h.len) (fun _ _ hh => h.has hh) h.get
theorem getL_set' (l : List Att) (name : Str) (w : List Str) (n : Str) : getL (setL (sortedL l) name w) n = if lower name = lower n then getL (setL (sortedL l) name w) name else getL l n := by
  split
  · rename_i h
    simp only [getL, h]
  · rename_i h; exact getL_other l w h
theorem Valid.set {l : List Att} (h : Valid l) {name : Str} {w : List Str} (hn : nameB name = true) (hw : ∀ v ∈ w, cleanB v = true) (h32 : (setL (sortedL l) name w).length ≤ 32) (h16 : (getL (setL (sortedL l) name w) name).length ≤ 16) : Valid (setL (sortedL l) name w) := by
  have hH := hasL_set l name w
  have hG := getL_set' l name w
  have key : Valid (sortedL (setL (sortedL l) name w)) := by
    have hi : sortedL (setL (sortedL l) name w) = setL (sortedL l) name w := by rw [setL, sorted_idem]
    refine valid_sorted (by rw [hi]; exact h32) (fun n v hh => ?_) (fun n => ?_)
    · rcases (hH n v).1 hh with ⟨_, h1⟩ | ⟨rfl, h1⟩
      · exact h.has h1
      · exact ⟨by rw [nameB_low]; exact hn, hw v h1⟩
    · rw [hG n]
      split
      · exact h16
      · exact h.get n
  have hi : sortedL (setL (sortedL l) name w) = setL (sortedL l) name w := by rw [setL, sorted_idem]
  rw [hi] at key
  exact key
theorem limL_ok {l : List Att} {name : Str} (h : (limL l name).2 = 0) : (limL l name).1 = l ∧ l.length ≤ 32 ∧ (getL l name).length ≤ 16 := by
  unfold limL at h ⊢
  split at h
  · simp at h
  · rename_i hc
    rw [if_neg hc]
    simp only [not_or] at hc
    exact ⟨rfl, by omega, by omega⟩

theorem addP_ok {l : List Att} {name : Str} {v : List Str} (h : (addP l name v).2 = 0) : nameB name = true ∧ v ≠ [] ∧ chkV (getL l name) [] v = 0 ∧ (addP l name v).1 = setL (sortedL l) name (getL l name ++ v) ∧ (addP l name v).1.length ≤ 32 ∧ (getL (addP l name v).1 name).length ≤ 16 := by
  unfold addP at h ⊢
  split at h
  · simp at h
  rename_i h1
  split at h
  · simp at h
  rename_i h2
  split at h
  · rename_i h3; exact absurd h h3
  rename_i h3
  rw [if_neg h1, if_neg h2, if_neg h3]
  obtain ⟨a, b, c⟩ := limL_ok h
  rw [a]
  exact ⟨by simpa using h1, h2, by simpa using h3, rfl, b, c⟩
theorem replP_ok {l : List Att} {name : Str} {v : List Str} (h : (replP l name v).2 = 0) : nameB name = true ∧ chkV [] [] v = 0 ∧ (replP l name v).1 = setL (sortedL l) name v ∧ (replP l name v).1.length ≤ 32 ∧ (getL (replP l name v).1 name).length ≤ 16 := by
  unfold replP at h ⊢
  split at h
  · simp at h
  rename_i h1
  split at h
  · rename_i h3; exact absurd h h3
  rename_i h2
  split at h
  · simp at h
  rename_i h3
  rw [if_neg h1, if_neg h2, if_neg h3]
  obtain ⟨a, b, c⟩ := limL_ok h
  rw [a]
  exact ⟨by simpa using h1, by simpa using h2, rfl, b, c⟩
theorem Valid.add {l : List Att} (h : Valid l) {name : Str} {v : List Str} (h0 : (addP l name v).2 = 0) : Valid (addP l name v).1 := by
  obtain ⟨h1, h2, h3, h4, h5, h6⟩ := addP_ok h0
  rw [h4] at h5 h6 ⊢
  refine h.set h1 (fun x hx => ?_) h5 h6
  rcases List.mem_append.1 hx with hx | hx
  · exact (h.has ((mem_getL l name x).1 hx)).2
  · exact (((chkV_zero _ _ _).1 h3).1 x hx).1
theorem Valid.replace {l : List Att} (h : Valid l) {name : Str} {v : List Str} (h0 : (replP l name v).2 = 0) : Valid (replP l name v).1 := by
  obtain ⟨h1, h3, h4, h5, h6⟩ := replP_ok h0
  rw [h4] at h5 h6 ⊢
  exact h.set h1 (fun x hx => (((chkV_zero _ _ _).1 h3).1 x hx).1) h5 h6
/-! ### what was added can be removed -/
/-! ### other attributes do not change -/
end Go.Proofs.Tz

/- strings.Builder: copyCheck. -/
set_option linter.unusedVariables false
namespace Go.Proofs.Tz
open Go.Vw Go.RowKit Go.Proofs

/-- strings.Builder's size. -/
theorem bld_size : (Tryz.prog.info? 64).map (·.size) = some 2 := by kernel_rfl
theorem bld_lies : liesAt Tryz.prog Tryz.prog.depth 64 (2 / Tryz.prog.cellsOf 64) 0 64 1 = true := by kernel_rfl

set_option maxRecDepth 100000 in
set_option maxHeartbeats 1000000 in
theorem cc_used (b : Nat) (w : World) (h0 : w.cell? ⟨b, 0, none⟩ = some (.pointer (some ⟨b, 0, none⟩))) :
    Calls Tryz.prog 66 #[.pointer (some ⟨b, 0, none⟩)] w fun e w' => e = .returned (.tuple #[]) ∧ w' = w := by
  obtain ⟨j, hj, _⟩ := Option.map_eq_some_iff.1 bld_size
  go_enter Tryz.func66, Tryz.ntmps66
  go_wp2
  rw [Lib.run_neq_ptr_same w _ Tryz.underlying61 hj]
  go_wp2
  go_end0
  exact ⟨rfl, rfl⟩

set_option maxRecDepth 100000 in
set_option maxHeartbeats 1000000 in
theorem cc_fresh (b : Nat) (w : World) (h0 : w.cell? ⟨b, 0, none⟩ = some (.pointer none)) (hsh : w.shape? b = some (64, 2)) (hfz : w.frozen? ⟨b, 0, none⟩ = false) :
    Calls Tryz.prog 66 #[.pointer (some ⟨b, 0, none⟩)] w fun e w' => e = .returned (.tuple #[]) ∧ w' = w.setCell ⟨b, 0, none⟩ (.pointer (some ⟨b, 0, none⟩)) := by
  obtain ⟨j, hj, hjs⟩ := Option.map_eq_some_iff.1 bld_size
  go_enter Tryz.func66, Tryz.ntmps66
  go_wp2
  rw [Lib.run_to_unsafe w ⟨b, 0, none⟩ Tryz.underlying61 Tryz.underlying111 hj (by rw [hjs]; decide) hsh (Nat.zero_lt_succ 1)]
  simp only [Result.andThen]
  rw [Oper.upon_value]
  go_wp2
  rw [run_callFunc_extern Tryz.func84 (by kernel_rfl) (by kernel_rfl) (by kernel_rfl) (e := Extern.AbiNoEscape.same) (by kernel_rfl)]
  rw [Lib.run_noEscape]
  simp only [Result.andThen]
  rw [Oper.upon_value]
  go_wp2
  rw [Lib.run_from_unsafe w ⟨b, 0, none⟩ Tryz.underlying111 Tryz.underlying61 hj hsh bld_lies]
  simp only [Result.andThen]
  rw [Oper.upon_value]
  go_wp2
  go_end0
  exact ⟨rfl, rfl⟩

/-- The address of a variable. -/
abbrev va (b : Nat) : Value := .pointer (some ⟨b, 0, none⟩)

/-- A builder's two cells in memory. -/
theorem bld_cells {w : World} {L : Nat → Nat → Prop} {b : Nat} {p : D} {hd : Value} (hp : p = .nilp ∨ p = .raw (va b))
    (h : BoxT w L (some b) 64 (.agg [p, .raw hd]) (va b)) : ∃ pv, w.heap[b]? = some (.cells #[pv, hd] 64 (0, 0)) ∧ (∀ o, ¬ L b o) ∧ hd.oneCell' = true ∧ vIsAgg hd = false ∧ ((p = .nilp ∧ pv = .pointer none) ∨ (p = .raw (va b) ∧ pv = va b)) := by
  obtain ⟨g, C, h1, h2, h3, h4, h5⟩ := h
  obtain rfl : b = g := by simpa using h1
  simp only [Rep, RepL] at h4
  obtain ⟨css, ⟨c, cs, rfl, hc, c2, cs2, rfl, ⟨rfl, h7, h8⟩, rfl⟩, h6⟩ := h4
  rcases hp with rfl | rfl
  · simp only [Rep] at hc
    subst hc
    have : C = #[.pointer none, hd] := by apply Array.ext'; simpa using h6
    subst this
    exact ⟨_, h3, h5, h7, h8, .inl ⟨rfl, rfl⟩⟩
  · simp only [Rep] at hc
    obtain ⟨rfl, _, _⟩ := hc
    have : C = #[va b, hd] := by apply Array.ext'; simpa using h6
    subst this
    exact ⟨_, h3, h5, h7, h8, .inr ⟨rfl, rfl⟩⟩
theorem bld_laid {w : World} {L : Nat → Nat → Prop} {b : Nat} {hd : Value} (h1 : w.heap[b]? = some (.cells #[va b, hd] 64 (0, 0))) (h2 : ∀ o, ¬ L b o) (h3 : hd.oneCell' = true) (h4 : vIsAgg hd = false) :
    RH Tryz.prog w L (.hb (va b) 64 (.agg [.raw (va b), .raw hd])) := by
  refine ⟨rfl, b, _, rfl, rfl, h1, ?_, h2⟩
  simp only [Rep, RepL]
  exact ⟨[[va b], [hd]], ⟨_, _, rfl, ⟨rfl, rfl, rfl⟩, _, _, rfl, ⟨rfl, h3, h4⟩, rfl⟩, rfl⟩

theorem copyCheck_fn {b : Nat} {p : D} (hp : p = .nilp ∨ p = .raw (va b)) {hd : Value} :
    CtrG Tryz.prog 66 [.d (.raw (va b))] [.hb (va b) 64 (.agg [p, .raw hd])] (fun r hs' => r = .tup [] ∧ hs' = [.hb (va b) 64 (.agg [.raw (va b), .raw hd])]) := by
  refine ⟨enters_of Tryz.func66 (by kernel_rfl) rfl, fun w L vals hlok hgl hv hh _ => ?_⟩
  obtain ⟨v, us, rfl, hv1, hv2⟩ := hv
  obtain rfl : us = [] := hv2
  obtain rfl : v = va b := RepV.raw_inv hv1
  have hb : BoxT w L (some b) 64 (.agg [p, .raw hd]) (va b) := (hh (.hb (va b) 64 (.agg [p, .raw hd])) (by simp)).2
  obtain ⟨pv, e1, e2, e3, e4, e5⟩ := bld_cells hp hb
  have hlt : b < w.heap.size := (Array.getElem?_eq_some_iff.1 e1).1
  rcases e5 with ⟨rfl, rfl⟩ | ⟨rfl, rfl⟩
  · refine (cc_fresh b w (by rw [Lib.cell_of_heap e1]; rfl) (by simp [World.shape?, e1]) (Lib.frozen_of_heap e1 0)).mono ?_
    rintro e w' ⟨rfl, rfl⟩
    have hsz : (w.setCell ⟨b, 0, none⟩ (va b)).heap.size = w.heap.size := by simp [World.setCell]
    refine ⟨_, L, none, .tup [], _, rfl, ⟨rfl, rfl, rfl, Nat.le_of_eq hsz.symm, fun k hk hn => Below.heap_setCell w _ _ k (fun e => hn (by simp [hblk, e])), Nat.le_refl _⟩, fun g q hq => by rw [hsz]; exact hlok g q hq, fun _ _ _ _ => Iff.rfl, fun g hg => ?_, ?_, ⟨[], rfl, rfl⟩, fun x hx => ?_, rfl, rfl⟩
    · simp [hblk] at hg; subst hg; exact ⟨by rw [hsz]; exact hlt, .inr (by simp [hblk])⟩
    · simp [apartB, hblk]
    · simp at hx; subst hx
      refine bld_laid ?_ e2 e3 e4
      simp [World.setCell, Array.getElem?_modify, e1]
  · refine (cc_used b w (by rw [Lib.cell_of_heap e1]; rfl)).mono ?_
    rintro e w' ⟨rfl, rfl⟩
    refine ⟨_, L, none, .tup [], _, rfl, GrownS.refl _ _, hlok, fun _ _ _ _ => Iff.rfl, fun g hg => ?_, ?_, ⟨[], rfl, rfl⟩, fun x hx => ?_, rfl, rfl⟩
    · simp [hblk] at hg; subst hg; exact ⟨hlt, .inr (by simp [hblk])⟩
    · simp [apartB, hblk]
    · simp at hx; subst hx
      exact bld_laid e1 e2 e3 e4
end Go.Proofs.Tz

/- strings.Builder: String. -/
set_option linter.unusedVariables false
namespace Go.Proofs.Tz
open Go.Vw Go.RowKit Go.Proofs

theorem byte_info : (Tryz.prog.info? 5).map (·.size) = some 1 := by kernel_rfl
theorem byte_cells : Tryz.prog.cellsOf 5 = 1 := by kernel_rfl

theorem bytes_cells {w : World} {L : Nat → Nat → Prop} : ∀ {s : Str} {css : List (List Value)}, RepL w L (bytesD s) css → css.flatten = s.map fun c => Value.int .u8 (c.toNat : Int)
  | [], css, h => by simp only [bytesD, List.map_nil, RepL] at h; subst h; rfl
  | c :: s, css, h => by
    simp only [bytesD, List.map_cons, RepL, Rep] at h
    obtain ⟨c1, cs, rfl, rfl, h2⟩ := h
    simp [bytes_cells (s := s) h2]

set_option maxRecDepth 100000 in
set_option maxHeartbeats 1000000 in
theorem bs_row {b g cap : Nat} {p : Value} {l : List UInt8} (w : World) (h0 : l ≠ []) (hbk : w.heap[b]? = some (.cells #[p, .slice (some ⟨g, 0, none⟩) l.length cap] 64 (0, 0))) {cur : Array Value} (hg : w.heap[g]? = some (.cells cur 5 (0, 0)))
    (hnc : l.length ≤ cap) (hcm : cap ≤ maxLen) (hcs : cap ≤ cur.size) (htk : ∀ j x, l[j]? = some x → w.cell? ((⟨g, 0, none⟩ : Addr).add j) = some (.int .u8 x.toNat)) :
    Calls Tryz.prog 33 #[.pointer (some ⟨b, 0, none⟩)] w fun e w' => e = .returned (.string ⟨l.toArray⟩) ∧ w' = w.drew.freeze ⟨g, 0, none⟩ l.length := by
  have hl0 : l.length ≠ 0 := by simpa using h0
  have c1 : w.drew.cell? ⟨b, 1, none⟩ = some (.slice (some ⟨g, 0, none⟩) l.length cap) := by
    have : w.drew.heap[b]? = some (.cells #[p, .slice (some ⟨g, 0, none⟩) l.length cap] 64 (0, 0)) := hbk
    rw [Lib.cell_of_heap this]; rfl
  have hSD : (Builtin.unsafeSliceData_ #[62] 98 #[.slice (some ⟨g, 0, none⟩) l.length cap]).run Tryz.prog w.drew = .ok (.pointer (some ⟨g, 0, none⟩)) w.drew :=
    Lib.run_unsafeSliceData_row _ _ _ _ _ _ (by omega)
  have hUS : (Builtin.unsafeString_ #[98, 3] 9 #[.pointer (some ⟨g, 0, none⟩), .int .i64 l.length]).run Tryz.prog w.drew = .ok (.string ⟨l.toArray⟩) (w.drew.freeze ⟨g, 0, none⟩ l.length) := by
    refine Lib.run_unsafeString_row w.drew 98 3 9 5 Tryz.underlying98 byte_cells g cur.size (by have hg' : w.drew.heap[g]? = some (.cells cur 5 (0, 0)) := hg; simp [World.shape?, hg']) l h0 (by omega) (by unfold maxLen at hcm; omega) ?_
    exact htk
  go_enter Tryz.func33, Tryz.ntmps33
  go_wp2
  go_region
  all_goals (go_wp2; go_ret; exact ⟨rfl, rfl⟩)

theorem bs_none (W : World) (q : Option Addr) : (Builtin.unsafeString_ #[98, 3] 9 #[.pointer q, .int .i64 0]).run Tryz.prog W = .ok (.string .empty) W := Lib.run_unsafeString_none W _ _ _ q

set_option maxRecDepth 100000 in
set_option maxHeartbeats 1000000 in
theorem bs_nil {b : Nat} {p : Value} (w : World) (hbk : w.heap[b]? = some (.cells #[p, .slice none 0 0] 64 (0, 0))) :
    Calls Tryz.prog 33 #[.pointer (some ⟨b, 0, none⟩)] w fun e w' => e = .returned (.string ⟨#[]⟩) ∧ w' = w.drew := by
  have hUS := bs_none
  have c1 : w.drew.cell? ⟨b, 1, none⟩ = some (.slice none 0 0) := by
    have : w.drew.heap[b]? = some (.cells #[p, .slice none 0 0] 64 (0, 0)) := hbk
    rw [Lib.cell_of_heap this]; rfl
  have hSD : (Builtin.unsafeSliceData_ #[62] 98 #[.slice none 0 0]).run Tryz.prog w.drew = .ok (.pointer none) w.drew := rfl
  go_enter Tryz.func33, Tryz.ntmps33
  go_wp2
  go_region
  all_goals (go_wp2; go_ret; exact ⟨rfl, rfl⟩)

set_option maxRecDepth 100000 in
set_option maxHeartbeats 1000000 in
theorem bs_room {b g cap : Nat} {p : Value} (w : World) (hc0 : cap ≠ 0) (hbk : w.heap[b]? = some (.cells #[p, .slice (some ⟨g, 0, none⟩) 0 cap] 64 (0, 0))) :
    Calls Tryz.prog 33 #[.pointer (some ⟨b, 0, none⟩)] w fun e w' => e = .returned (.string ⟨#[]⟩) ∧ w' = w.drew := by
  have hUS := bs_none
  have c1 : w.drew.cell? ⟨b, 1, none⟩ = some (.slice (some ⟨g, 0, none⟩) 0 cap) := by
    have : w.drew.heap[b]? = some (.cells #[p, .slice (some ⟨g, 0, none⟩) 0 cap] 64 (0, 0)) := hbk
    rw [Lib.cell_of_heap this]; rfl
  have hSD : (Builtin.unsafeSliceData_ #[62] 98 #[.slice (some ⟨g, 0, none⟩) 0 cap]).run Tryz.prog w.drew = .ok (.pointer (some ⟨g, 0, none⟩)) w.drew :=
    Lib.run_unsafeSliceData_row _ _ _ _ _ _ hc0
  clear hc0
  go_enter Tryz.func33, Tryz.ntmps33
  go_wp2
  go_region
  all_goals (go_wp2; go_ret; exact ⟨rfl, rfl⟩)

set_option maxRecDepth 100000 in
set_option maxHeartbeats 1000000 in
theorem bs_noroom {b g : Nat} {p : Value} {cur : Array Value} (w : World) (hbk : w.heap[b]? = some (.cells #[p, .slice (some ⟨g, 0, none⟩) 0 0] 64 (0, 0))) (hg : w.heap[g]? = some (.cells cur 5 (0, 0))) :
    Calls Tryz.prog 33 #[.pointer (some ⟨b, 0, none⟩)] w fun e w' => e = .returned (.string ⟨#[]⟩) ∧ (w' = w.drew.alloc (.view ⟨g, 0, none⟩ 5) ∨ w' = (w.alloc (.view ⟨g, 0, none⟩ 5)).drew) := by
  have hUS := bs_none
  have hlt : b < w.heap.size := (Array.getElem?_eq_some_iff.1 hbk).1
  have c1 : w.drew.cell? ⟨b, 1, none⟩ = some (.slice (some ⟨g, 0, none⟩) 0 0) := by
    have : w.drew.heap[b]? = some (.cells #[p, .slice (some ⟨g, 0, none⟩) 0 0] 64 (0, 0)) := hbk
    rw [Lib.cell_of_heap this]; rfl
  have hSD : (Builtin.unsafeSliceData_ #[62] 98 #[.slice (some ⟨g, 0, none⟩) 0 0]).run Tryz.prog w.drew = .ok (.pointer (some ⟨w.drew.heap.size, 0, none⟩)) (w.drew.alloc (.view ⟨g, 0, none⟩ 5)) :=
    Lib.run_unsafeSliceData_zero w.drew _ _ 5 Tryz.underlying98 ⟨g, 0, none⟩ 0 (5, cur.size) (by have hg' : w.drew.heap[g]? = some (.cells cur 5 (0, 0)) := hg; simp [World.shape?, hg'])
  have c2 : (w.drew.alloc (.view ⟨g, 0, none⟩ 5)).cell? ⟨b, 1, none⟩ = some (.slice (some ⟨g, 0, none⟩) 0 0) := by
    have : (w.drew.alloc (.view ⟨g, 0, none⟩ 5)).heap[b]? = _ := (Lib.alloc_old w.drew _ b hlt).trans hbk
    rw [Lib.cell_of_heap this]; rfl
  have c3 : (w.alloc (.view ⟨g, 0, none⟩ 5)).drew.cell? ⟨b, 1, none⟩ = some (.slice (some ⟨g, 0, none⟩) 0 0) := c2
  have c0 : w.cell? ⟨b, 1, none⟩ = some (.slice (some ⟨g, 0, none⟩) 0 0) := c1
  go_enter Tryz.func33, Tryz.ntmps33
  go_wp2
  go_region
  all_goals (go_wp2; go_ret; exact ⟨rfl, .inl rfl⟩)

/-- A builder: its variable's block, its copy-check's pointer, its bytes' head. -/
abbrev bld (b : Nat) (p : D) (hd : Value) (s : Str) : List AV := [.hb (va b) 64 (.agg [p, .raw hd]), .hs hd 5 (bytesD s)]

theorem bytesD_length (s : Str) : (bytesD s).length = s.length := by simp [bytesD]
theorem heap_freeze (w : World) (a : Addr) (n k : Nat) (h : k ≠ a.block) : (w.freeze a n).heap[k]? = w.heap[k]? := by
  unfold World.freeze
  split
  · rfl
  · simp only []
    rw [Array.getElem?_modify, if_neg (fun e => h e.symm)]
theorem size_freeze (w : World) (a : Addr) (n : Nat) : (w.freeze a n).heap.size = w.heap.size := by
  unfold World.freeze
  split
  · rfl
  · simp
theorem size_alloc (w : World) (o : Obj) : (w.alloc o).heap.size = w.heap.size + 1 := by unfold World.alloc; simp
theorem freeze_parts (w : World) (a : Addr) (n : Nat) : (w.freeze a n).os = w.os ∧ (w.freeze a n).tape = w.tape ∧ (w.freeze a n).output = w.output := by
  unfold World.freeze
  split <;> exact ⟨rfl, rfl, rfl⟩

theorem string_fn {b : Nat} {p : D} (hp : p = .nilp ∨ p = .raw (va b)) {hd : Value} {s : Str} :
    CtrG Tryz.prog 33 [.d (.raw (va b))] (bld b p hd s) (fun r hs' => r = .d (.str s) ∧ hs' = []) := by
  refine ⟨enters_of Tryz.func33 (by kernel_rfl) rfl, fun w L vals hlok hgl hv hh hap => ?_⟩
  obtain ⟨v, us, rfl, hv1, hv2⟩ := hv
  obtain rfl : us = [] := hv2
  obtain rfl : v = va b := RepV.raw_inv hv1
  have hb : BoxT w L (some b) 64 (.agg [p, .raw hd]) (va b) := (hh (.hb (va b) 64 (.agg [p, .raw hd])) (by simp)).2
  obtain ⟨pv, e1, e2, e3, e4, e5⟩ := bld_cells hp hb
  have hs : OwnR Tryz.prog w L hd.ownBlock true 5 (bytesD s) hd := (hh (.hs hd 5 (bytesD s)) (by simp)).2
  obtain ⟨css, sz, f1, f2, f3, f4, f5⟩ := hs
  obtain rfl : sz = 1 := by
    have : ety 5 = 5 := rfl
    rw [this, byte_info] at f1; simpa using f1.symm
  have hcs := bytes_cells f2
  have done : ∀ (w' : World), GrownS w w' (fun k => some k ∈ (bld b p hd s).map hblk) → ∀ st : Str, st = s → Ending.returned (.string ⟨st.toArray⟩) = Ending.returned (.string ⟨s.toArray⟩) ∧
      ∃ v L' og r hs', Ending.returned (.string ⟨s.toArray⟩) = Ending.returned v ∧ GrownS w w' (fun k => some k ∈ (bld b p hd s).map hblk) ∧ (∀ b q, L' b q → b < w'.heap.size) ∧ (∀ b' q, b' < w.heap.size → some b' ∉ (bld b p hd s).map hblk → (L' b' q ↔ L b' q)) ∧
      (∀ g, some g ∈ og :: hs'.map hblk → g < w'.heap.size ∧ (w.heap.size ≤ g ∨ some g ∈ (bld b p hd s).map hblk)) ∧ apartB (og :: hs'.map hblk) ∧ RC Tryz.prog w' L' og r v ∧ (∀ x ∈ hs', RH Tryz.prog w' L' x) ∧ (r = .d (.str s) ∧ hs' = []) := by
    intro w' hg st hst
    refine ⟨by rw [hst], _, L, none, .d (.str s), [], rfl, hg, fun b q hq => Nat.lt_of_lt_of_le (hlok b q hq) hg.size, fun _ _ _ _ => Iff.rfl, fun g hgm => by simp at hgm, by simp [apartB], RepV.str, by simp, rfl, rfl⟩
  rcases f4.2 with ⟨rfl, hn⟩ | ⟨g, cap, cur, hv, hh', hnc, hcm, hsz, ht⟩
  · have hs0 : s = [] := by simpa [bytesD] using hn
    subst hs0
    refine (bs_nil w e1).mono ?_
    rintro e w' ⟨rfl, rfl⟩
    exact (done w.drew ⟨rfl, rfl, rfl, Nat.le_refl _, fun _ _ _ => rfl, Nat.le_succ _⟩ [] rfl).2
  · subst hv
    rw [bytesD_length] at *
    have hblk1 : (bld b p (.slice (some ⟨g, 0, none⟩) s.length cap) s).map hblk = [some b, some g] := by simp [hblk, Value.ownBlock]
    by_cases h0 : s = []
    · subst h0
      by_cases hc0 : cap = 0
      · subst hc0
        refine (bs_noroom w e1 hh').mono ?_
        rintro e w' ⟨rfl, hw⟩
        refine (done w' ?_ [] rfl).2
        rcases hw with rfl | rfl
        · exact ⟨rfl, rfl, rfl, by rw [size_alloc]; exact Nat.le_succ _, fun k hk _ => Lib.alloc_old w.drew _ k hk, Nat.le_succ _⟩
        · exact ⟨rfl, rfl, rfl, by show _ ≤ (w.alloc _).heap.size; rw [size_alloc]; exact Nat.le_succ _, fun k hk _ => Lib.alloc_old w _ k hk, Nat.le_succ _⟩
      · refine (bs_room w hc0 e1).mono ?_
        rintro e w' ⟨rfl, rfl⟩
        exact (done w.drew ⟨rfl, rfl, rfl, Nat.le_refl _, fun _ _ _ => rfl, Nat.le_succ _⟩ [] rfl).2
    · refine (bs_row w h0 e1 hh' hnc hcm (by omega) (fun j x hx => ?_)).mono ?_
      · have := rowOK.cells f4 (g := g) rfl j (.int .u8 x.toNat) (by rw [hcs, List.getElem?_map, hx]; rfl)
        exact this
      · rintro e w' ⟨rfl, rfl⟩
        refine (done (w.drew.freeze ⟨g, 0, none⟩ s.length) ⟨(freeze_parts _ _ _).1, (freeze_parts _ _ _).2.1, (freeze_parts _ _ _).2.2, by rw [size_freeze]; exact Nat.le_refl _, fun k hk hn => ?_, by rw [freeze_drawn]; exact Nat.le_succ _⟩ s rfl).2
        rw [heap_freeze _ _ _ _ (fun e => hn (by rw [hblk1]; simp [e]))]
        rfl
end Go.Proofs.Tz

/- strings.Builder: WriteByte, WriteString, Len. -/
set_option linter.unusedVariables false
set_option linter.unusedSimpArgs false
namespace Go.Proofs.Tz
open Go.Vw Go.RowKit Go.Proofs

/-- A call to which names are given, with its contract. -/
theorem givB {P : Program} {g : FuncId} {args : List AV} {σ : St} {d : Nat} {K : St → Prop} (ks : List Nat) (b : Nat) {hs : List AV} {Post : AV → List AV → Prop} (h : CtrG P g args hs Post) (h1 : ks.map σ = hs) (h2 : hs.all isH = true) (h3 : ks.Nodup)
    (hk : ∀ r hs', Post r hs' → K (putH (put (takeH σ ks) d r) ks b hs')) : GivK P g args σ d K :=
  ⟨ks, b, Post, fun k hk => by
    have : σ k ∈ hs := by rw [← h1]; exact List.mem_map.2 ⟨k, hk, rfl⟩
    exact List.all_eq_true.1 h2 _ this, h3, by rw [h1]; exact h, hk⟩

/-- The address of a named variable's field. -/
theorem rawFd {P : Program} {s f : Nat} {u : Value} {σ : St} {C : AV → Prop} (j : Nat) {e : TypeId} {ds : List D} (hj : σ j = .hb u e (.agg ds)) (h0 : 1000000 ≤ j) (h1 : f < ds.length) (h2 : fieldOff P s f = some (widths (ds.take f))) (h : C (.adr j [f])) : RawFd P s f u σ C :=
  ⟨j, e, ds, h0, hj, h1, h2, h⟩
theorem appSK {e : TypeId} {t : Str} {l : List D} {u : Value} {σ : St} {d : Nat} {K : St → Prop} (j : Nat) (hj : σ j = .hs u e l) (h2 : l.length + List.length t ≤ 140737488355328)
    (hk : ∀ A c, K (put (put σ j (.hs (.slice A (l ++ bytesD t).length c) e (l ++ bytesD t))) d (.d (.raw (.slice A (l ++ bytesD t).length c))))) : AppSK e t u σ d K := ⟨j, l, .inl hj, h2, hk⟩
@[simp] theorem cval_nilIface : cval Value.nilIface = .undef := rfl

theorem writeByte_fn {b : Nat} {p : D} (hp : p = .nilp ∨ p = .raw (va b)) {hd : Value} {s : Str} (c : UInt8) (hl : s.length + 1 ≤ 140737488355328) :
    CtrG Tryz.prog 68 [.d (.raw (va b)), .d (.int .u8 c.toNat)] (bld b p hd s) (fun r hs' => ∃ hd', hs' = bld b (.raw (va b)) hd' (s ++ [c])) := by
  refine fn_of_vwpGN (fun i => i == 5000006) (by kernel_rfl) (rs := [.tmp 4]) Tryz.func68 (by kernel_rfl) rfl rfl (by simp) (Nat.le_of_ble_eq_true rfl) (by kernel_rfl) rfl ?_
  simp -implicitDefEqProofs [initG]
  refine givB [1000000] 1000000 (copyCheck_fn (hd := hd) hp) (by simp [initG]) rfl (by simp) ?_
  rintro r hs' ⟨rfl, rfl⟩
  simp -implicitDefEqProofs [initG, takeH, putH]
  refine rawFd 1000000 (by simp; exact ⟨rfl, rfl⟩) (by omega) (by simp) (by kernel_rfl) ?_
  simp -implicitDefEqProofs [initG]
  refine appK (l := bytesD s) 1000001 (by simp [initG]) (by simp) (by simp [bytesD]; omega) (by simp [bytesD]; omega) (fun A c2 => ?_)
  simp -implicitDefEqProofs [initG]
  refine rawFd 1000000 (by simp; exact ⟨rfl, rfl⟩) (by omega) (by simp) (by kernel_rfl) ?_
  simp -implicitDefEqProofs [initG]
  refine ⟨[.undef], [1000000, 1000001], by simp, by simp [isH], by simp [resDs, resD], .slice A ((bytesD s).length + 1) c2, by simp [bytesD]⟩

theorem writeString_fn {b : Nat} {p : D} (hp : p = .nilp ∨ p = .raw (va b)) {hd : Value} {s : Str} (t : Str) (hl : s.length + t.length ≤ 140737488355328) :
    CtrG Tryz.prog 30 [.d (.raw (va b)), .d (.str t)] (bld b p hd s) (fun r hs' => ∃ hd', hs' = bld b (.raw (va b)) hd' (s ++ t)) := by
  refine fn_of_vwpGN (fun i => i == 5000007) (by kernel_rfl) (rs := [.tmp 4, .tmp 5]) Tryz.func30 (by kernel_rfl) rfl rfl (by simp) (Nat.le_of_ble_eq_true rfl) (by kernel_rfl) rfl ?_
  simp -implicitDefEqProofs [initG]
  refine givB [1000000] 1000000 (copyCheck_fn (hd := hd) hp) (by simp [initG]) rfl (by simp) ?_
  rintro r hs' ⟨rfl, rfl⟩
  simp -implicitDefEqProofs [initG, takeH, putH]
  refine rawFd 1000000 (by simp; exact ⟨rfl, rfl⟩) (by omega) (by simp) (by kernel_rfl) ?_
  simp -implicitDefEqProofs [initG]
  refine appSK (l := bytesD s) 1000001 (by simp [initG]) (by simp [bytesD]; omega) (fun A c2 => ?_)
  simp -implicitDefEqProofs [initG]
  refine rawFd 1000000 (by simp; exact ⟨rfl, rfl⟩) (by omega) (by simp) (by kernel_rfl) ?_
  simp -implicitDefEqProofs [initG]
  refine ⟨[.undef, .undef], [1000000, 1000001], by simp, by simp [isH], by simp [resDs, resD], .slice A ((bytesD s).length + (bytesD t).length) c2, by simp [bytesD]⟩

/-- A named slice's length is in its head. -/
theorem CtrG.head {P : Program} {f : FuncId} {args hs : List AV} {Post : AV → List AV → Prop} {u : Value} {e : TypeId} {l : List D} (hm : AV.hs u e l ∈ hs) (hE : Enters P f) (h : ∀ A c, u = .slice A l.length c → CtrG P f args hs Post) : CtrG P f args hs Post := by
  refine ⟨hE, fun w L vals hlok hgl hv hh ha => ?_⟩
  obtain ⟨A, c, hu⟩ := OwnR.shape (show OwnR P w L u.ownBlock true e l u from (hh _ hm).2)
  exact (h A c hu).2 w L vals hlok hgl hv hh ha

theorem bLen_fn {b : Nat} {p : D} (hp : p = .nilp ∨ p = .raw (va b)) {hd : Value} {s : Str} :
    CtrG Tryz.prog 32 [.d (.raw (va b))] (bld b p hd s) (fun r hs' => r = .d (.int .i64 s.length) ∧ hs' = bld b p hd s) := by
  refine CtrG.head (u := hd) (e := 5) (l := bytesD s) (by simp) (enters_of Tryz.func32 (by kernel_rfl) rfl) (fun A c hh => ?_)
  subst hh
  refine fn_of_vwpG (fun _ => false) (by kernel_rfl) Tryz.func32 (by kernel_rfl) rfl rfl (Nat.le_of_ble_eq_true rfl) (by kernel_rfl) rfl ?_
  simp -implicitDefEqProofs [initG]
  refine rawFd (e := 64) (ds := [p, .raw (.slice A (bytesD s).length c)]) 1000000 (by simp [initG]) (by omega) (by simp) (by rcases hp with rfl | rfl <;> kernel_rfl) ?_
  simp -implicitDefEqProofs [initG]
  refine ⟨.d (.int .i64 s.length), [1000000, 1000001], by simp, by simp [isH], by simp [ResG, bytesD], by simp [bytesD], by simp [bytesD, initG]⟩
end Go.Proofs.Tz

/- Library functions on bytes that change nothing: IndexByte, Count. -/
set_option linter.unusedVariables false
set_option linter.unusedSimpArgs false
namespace Go.Proofs.Tz
open Go.Vw Go.RowKit Go.Proofs

/-- A function that leaves the world as it was. -/
theorem Ctr.same {P : Program} {f : FuncId} {xs : List D} {r : D} {vs : List Value} {v : Value} (hE : Enters P f) (h : ∀ w, Calls P f vs.toArray w fun e w' => e = .returned v ∧ w' = w)
    (hx : ∀ w L og vals, RCs P w L og (xs.map .d) vals → vals = vs) (hr : ∀ w L, RepV w L r v) : Ctr P f (xs.map .d) (.d r) := by
  refine ⟨hE, fun w L og vals hlok hgl hog hv => ?_⟩
  rw [hx w L og vals hv]
  refine (h w).mono ?_
  rintro e w' ⟨rfl, rfl⟩
  exact ⟨_, L, none, rfl, GrownS.refl _ _, hlok, fun _ _ _ _ => Iff.rfl, by simp, hr _ _⟩

/-- The place of the first byte c; or -1. -/
abbrev ixB (s : Str) (c : UInt8) : Int := Go.Lib.indexByte s c

set_option maxRecDepth 100000 in
set_option maxHeartbeats 1000000 in
theorem indexByteL_any (s : Str) (c : UInt8) (w : World) : Calls Tryz.prog 86 #[.string ⟨s.toArray⟩, .int .u8 c.toNat] w fun e w' => e = .returned (.int .i64 (ixB s c)) ∧ w' = w := by
  go_enter Tryz.func86, Tryz.ntmps86
  go_wp2
  rw [run_callFunc_extern Tryz.func120 (by kernel_rfl) (by kernel_rfl) (by kernel_rfl) (e := Extern.BytealgIndexByte.indexByte) (by kernel_rfl), Lib.run_indexByteString]
  simp only [Result.andThen]
  rw [Oper.upon_value]
  go_wp2
  go_ret
  simp [ixB]

theorem indexByteL_fn (s : Str) (c : UInt8) : Ctr Tryz.prog 86 [.d (.str s), .d (.int .u8 c.toNat)] (.d (.int .i64 (ixB s c))) := by
  refine Ctr.same (xs := [.str s, .int .u8 c.toNat]) (enters_of Tryz.func86 (by kernel_rfl) rfl) (indexByteL_any s c) (fun w L og vals h => ?_) (fun w L => RepV.int)
  obtain ⟨v, us, rfl, h1, v2, us2, rfl, h2, h3⟩ := h
  obtain rfl : us2 = [] := h3
  obtain rfl := RepV.str_inv h1
  obtain rfl := RepV.int_inv h2
  rfl

theorem indexByte_fn (s : Str) (c : UInt8) : Ctr Tryz.prog 83 [.d (.str s), .d (.int .u8 c.toNat)] (.d (.int .i64 (ixB s c))) := by
  refine fn_of_vwp (fun _ => false) (by kernel_rfl) Tryz.func83 (by kernel_rfl) rfl rfl (Nat.le_of_ble_eq_true rfl) (by kernel_rfl) rfl rfl ?_
  simp -implicitDefEqProofs
  refine callK (indexByteL_fn s c) ?_
  simp -implicitDefEqProofs

set_option maxRecDepth 100000 in
set_option maxHeartbeats 1000000 in
theorem count_any (s : Str) (c : UInt8) (hl : s.length ≤ 140737488355328) (w : World) : Calls Tryz.prog 118 #[.string ⟨s.toArray⟩, .string ⟨#[c]⟩] w fun e w' => e = .returned (.int .i64 (s.count c)) ∧ w' = w := by
  go_enter Tryz.func118, Tryz.ntmps118
  go_wp2
  rw [run_callFunc_extern Tryz.func136 (by kernel_rfl) (by kernel_rfl) (by kernel_rfl) (e := Extern.BytealgCount.count) (by kernel_rfl), Lib.run_countString]
  simp only [Result.andThen]
  rw [Oper.upon_value]
  go_wp2
  go_ret
  simp [Lib.countByte]
  rfl

theorem count_fn (s : Str) (c : UInt8) (hl : s.length ≤ 140737488355328) : Ctr Tryz.prog 118 [.d (.str s), .d (.str [c])] (.d (.int .i64 (s.count c))) := by
  refine Ctr.same (xs := [.str s, .str [c]]) (enters_of Tryz.func118 (by kernel_rfl) rfl) (count_any s c hl) (fun w L og vals h => ?_) (fun w L => RepV.int)
  obtain ⟨v, us, rfl, h1, v2, us2, rfl, h2, h3⟩ := h
  obtain rfl : us2 = [] := h3
  obtain rfl := RepV.str_inv h1
  obtain rfl := RepV.str_inv h2
  rfl

theorem ixB_lt {s : Str} {c : UInt8} (h : 0 ≤ ixB s c) : (ixB s c).toNat < s.length := by
  induction s with
  | nil => simp [ixB, Go.Lib.indexByte] at h
  | cons x s ih =>
    simp only [ixB, Go.Lib.indexByte] at h ih ⊢
    split
    · simp
    · split
      · rename_i h1 h2; simp [h1, h2] at h
      · rename_i h1 h2
        simp only [h1, h2] at h
        have h3 : Go.Lib.indexByte s c ≠ -1 := by simpa using h2
        have h4 := Go.Lib.indexByte_ge s c
        have := ih (by omega)
        simp only [List.length_cons]
        omega
theorem indexL_fn (s : Str) (c : UInt8) (hl : s.length ≤ 140737488355328) : Ctr Tryz.prog 72 [.d (.str s), .d (.str [c])] (.d (.int .i64 (ixB s c))) := by
  refine fn_of_vwp (fun _ => false) (by kernel_rfl) Tryz.func72 (by kernel_rfl) rfl rfl (Nat.le_of_ble_eq_true rfl) (by kernel_rfl) rfl rfl ?_
  simp -implicitDefEqProofs
  by_cases hs : [c] = s
  · subst hs
    simp [ixB, Go.Lib.indexByte]
  · simp only [hs, if_false]
    refine callK (indexByteL_fn s c) ?_
    simp -implicitDefEqProofs

/-- strings.Cut at a byte. -/
def cutB (s : Str) (c : UInt8) : Str × Str × Bool := if 0 ≤ ixB s c then (s.take (ixB s c).toNat, s.drop ((ixB s c).toNat + 1), true) else (s, [], false)

theorem cutL_fn (s : Str) (c : UInt8) (hl : s.length ≤ 140737488355328) : Ctr Tryz.prog 44 [.d (.str s), .d (.str [c])] (.tup [.d (.str (cutB s c).1), .d (.str (cutB s c).2.1), .d (.bool (cutB s c).2.2)]) := by
  refine fn_of_vwpN (rv := .tmp 4) (rs := [.tmp 5, .tmp 6]) (r := .d (.str (cutB s c).1)) (ys := [.d (.str (cutB s c).2.1), .d (.bool (cutB s c).2.2)]) (fun _ => false) (by kernel_rfl) Tryz.func44 (by kernel_rfl) rfl rfl (by simp) (Nat.le_of_ble_eq_true rfl) (by kernel_rfl) rfl rfl ?_
  simp -implicitDefEqProofs
  refine callK (indexL_fn s c hl) ?_
  by_cases h : 0 ≤ ixB s c
  · have hlt := ixB_lt h
    obtain ⟨k, hk⟩ := Int.eq_ofNat_of_zero_le h
    rw [hk] at hlt
    have h2 : (0 : Int) ≤ (k : Int) + 1 := by omega
    have h3 : ((k : Int) + 1).toNat = k + 1 := by omega
    simp -implicitDefEqProofs [hk, h2, h3, cutB]
    simp only [Int.toNat_natCast] at hlt
    refine ⟨by omega, by omega, by omega, ?_⟩
    rw [List.take_of_length_le (by simp)]
  · simp -implicitDefEqProofs [h, cutB]

theorem cut_fn (s : Str) (c : UInt8) (hl : s.length ≤ 140737488355328) : Ctr Tryz.prog 19 [.d (.str s), .d (.str [c])] (.tup [.d (.str (cutB s c).1), .d (.str (cutB s c).2.1), .d (.bool (cutB s c).2.2)]) := by
  refine fn_of_vwpN (rv := .tmp 4) (rs := [.tmp 5, .tmp 6]) (r := .d (.str (cutB s c).1)) (ys := [.d (.str (cutB s c).2.1), .d (.bool (cutB s c).2.2)]) (fun _ => false) (by kernel_rfl) Tryz.func19 (by kernel_rfl) rfl rfl (by simp) (Nat.le_of_ble_eq_true rfl) (by kernel_rfl) rfl rfl ?_
  simp -implicitDefEqProofs
  refine callK (cutL_fn s c hl) ?_
  simp -implicitDefEqProofs
end Go.Proofs.Tz

/- codec.plain, identityref02.plain. -/
set_option linter.unusedVariables false
set_option linter.unusedSimpArgs false
namespace Go.Proofs.Tz
open Go.Vw Go.RowKit Go.Proofs

/-- A byte that is written as it is. -/
def plainB (c : UInt8) : Bool := decide ((33 : Int) ≤ c.toNat ∧ (c.toNat : Int) ≤ 126 ∧ ¬ (c.toNat : Int) = 37 ∧ ¬ (c.toNat : Int) = 124 ∧ ¬ (c.toNat : Int) = 44 ∧ ¬ (c.toNat : Int) = 61 ∧ ¬ (c.toNat : Int) = 59 ∧ ¬ (c.toNat : Int) = 34)

theorem ixB_neg (s : Str) (c : UInt8) : ixB s c < 0 ↔ c ∉ s := by
  induction s with
  | nil => simp [ixB, Go.Lib.indexByte]
  | cons x s ih =>
    have h4 := Go.Lib.indexByte_ge s c
    simp only [ixB, Go.Lib.indexByte] at ih ⊢
    by_cases hx : x = c
    · simp [hx]
    · have hx' : (x == c) = false := by simpa using hx
      simp only [hx', Bool.false_eq_true, if_false, List.mem_cons, not_or]
      by_cases h : Go.Lib.indexByte s c = -1
      · simp [h] at ih ⊢
        exact ⟨fun e => hx e.symm, ih⟩
      · have hn : ¬ Go.Lib.indexByte s c < 0 := by omega
        have h0 : (Go.Lib.indexByte s c == -1) = false := by simpa using h
        simp only [h0, Bool.false_eq_true, if_false]
        constructor
        · intro h5; omega
        · intro h5; exact absurd (ih.2 h5.2) hn

theorem u8_int (c : UInt8) (k : Nat) (hk : k < 256) : ((c.toNat : Int) = k) ↔ c = UInt8.ofNat k := by
  constructor
  · intro h
    have : c.toNat = k := by omega
    rw [← this, UInt8.ofNat_toNat]
  · rintro rfl
    simp [UInt8.toNat_ofNat', Nat.mod_eq_of_lt hk]

theorem ixB_plain (c : UInt8) : decide (ixB [37, 124, 44, 61, 59, 34] c < 0) = decide (¬ (c.toNat : Int) = 37 ∧ ¬ (c.toNat : Int) = 124 ∧ ¬ (c.toNat : Int) = 44 ∧ ¬ (c.toNat : Int) = 61 ∧ ¬ (c.toNat : Int) = 59 ∧ ¬ (c.toNat : Int) = 34) := by
  have h1 : ((c.toNat : Int) = 37) ↔ c = 37 := u8_int c 37 (by omega)
  have h2 : ((c.toNat : Int) = 124) ↔ c = 124 := u8_int c 124 (by omega)
  have h3 : ((c.toNat : Int) = 44) ↔ c = 44 := u8_int c 44 (by omega)
  have h4 : ((c.toNat : Int) = 61) ↔ c = 61 := u8_int c 61 (by omega)
  have h5 : ((c.toNat : Int) = 59) ↔ c = 59 := u8_int c 59 (by omega)
  have h6 : ((c.toNat : Int) = 34) ↔ c = 34 := u8_int c 34 (by omega)
  rw [decide_eq_decide, ixB_neg, h1, h2, h3, h4, h5, h6]
  simp

theorem plain_fn (c : UInt8) : Ctr Tryz.prog 67 [.d (.int .u8 c.toNat)] (.d (.bool (plainB c))) := by
  refine fn_of_vwp (fun _ => false) (by kernel_rfl) Tryz.func67 (by kernel_rfl) rfl rfl (Nat.le_of_ble_eq_true rfl) (by kernel_rfl) rfl rfl ?_
  by_cases h1 : (33 : Int) ≤ c.toNat
  · by_cases h2 : (c.toNat : Int) ≤ 126
    · simp -implicitDefEqProofs [h1, h2]
      refine callK (indexByte_fn _ c) ?_
      simp -implicitDefEqProofs [h1, h2, plainB]
      rw [ixB_plain]
      simp
    · simp -implicitDefEqProofs [h1, h2, plainB]
  · simp -implicitDefEqProofs [h1, plainB]
end Go.Proofs.Tz

/- Escape. -/
set_option maxRecDepth 100000
set_option maxHeartbeats 4000000
set_option linter.unusedVariables false
set_option linter.unusedSimpArgs false
namespace Go.Proofs.Tz
open Go.Vw Go.RowKit Go.Proofs

abbrev hexDs : Str := [48, 49, 50, 51, 52, 53, 54, 55, 56, 57, 65, 66, 67, 68, 69, 70]
def hexC (n : Nat) : UInt8 := hexDs.getD n 0
def escB (c : UInt8) : Str := if plainB c then [c] else [37, hexC (c.toNat / 16), hexC (c.toNat % 16)]
def escS (s : Str) : Str := s.flatMap escB

theorem escB_len (c : UInt8) : (escB c).length ≤ 3 := by unfold escB; split <;> simp
theorem escS_len (s : Str) : (escS s).length ≤ 3 * s.length := by
  induction s with
  | nil => simp [escS]
  | cons c s ih =>
    have := escB_len c
    simp only [escS, List.flatMap_cons, List.length_append, List.length_cons] at ih ⊢
    omega
theorem escS_take {s : Str} {k : Nat} (h : k < List.length s) : escS (s.take (k + 1)) = escS (s.take k) ++ escB s[k] := by
  rw [take_s h]; simp only [escS, List.flatMap_append, List.flatMap_cons, List.flatMap_nil, List.append_nil]
theorem hex_at {n : Nat} (h : n < 16) : hexDs[n]? = some (hexC n) := by
  simp only [hexC, List.getD_eq_getElem?_getD]
  rw [List.getElem?_eq_getElem (by simpa using h)]
  rfl
theorem hexQ (c : UInt8) : (0 : Int) ≤ (c.toNat : Int) / 16 ∧ (c.toNat : Int) / 16 ≤ 255 ∧ ((c.toNat : Int) / 16).toNat = c.toNat / 16 ∧ [48, 49, 50, 51, 52, 53, 54, 55, 56, 57, 65, 66, 67, 68, 69, 70][c.toNat / 16]? = some (hexC (c.toNat / 16)) ∧ c.toNat / 16 < 16 := by
  have := c.toNat_lt
  exact ⟨by omega, by omega, by omega, hex_at (by omega), by omega⟩
theorem hexR (c : UInt8) : (0 : Int) ≤ (c.toNat : Int) % 16 ∧ ((c.toNat : Int) % 16).toNat = c.toNat % 16 ∧ [48, 49, 50, 51, 52, 53, 54, 55, 56, 57, 65, 66, 67, 68, 69, 70][c.toNat % 16]? = some (hexC (c.toNat % 16)) := by
  have := c.toNat_lt
  exact ⟨by omega, by omega, hex_at (by omega)⟩

/-- A new variable gets a name, and so does a nil slice in it. -/
theorem newK2 {P : Program} {e : TypeId} {z : D} {σ : St} {d : Nat} {K : St → Prop} (j k : Nat) (e' : TypeId) (h1 : σ k = .undef) (h2 : (P.info? (ety e')).isSome = true) (h3 : σ j = .undef) (hjk : j ≠ k)
    (hK : ∀ g, K (put (put (put σ k (.hs (.slice none 0 0) e' [])) j (.hb (va g) e z)) d (.d (.raw (va g))))) : NewK P e z σ d K :=
  ⟨j, some (k, e'), ⟨h1, h2⟩, by simp [nilN, hjk, h3], hK⟩

theorem zTX61 : zeroTX Tryz.prog true 8 64 = .agg [.nilp, .raw (.slice none 0 0)] := by kernel_rfl

def BldAt (τ : St) (b : Nat) (s : Str) : Prop := ∃ p hd, (p = .nilp ∨ p = .raw (va b)) ∧ τ 1000000 = .hb (va b) 64 (.agg [p, .raw hd]) ∧ τ 1000001 = .hs hd 5 (bytesD s)

theorem escape_fn (s : Str) (hs : List.length s < 1000000) : Ctr Tryz.prog 31 [.d (.str s)] (.d (.str (escS s))) := by
  refine fn_of_vwp (fun i => i == 1000003 || i == 5000017 || i == 5000018 || i == 5000022 || i == 5000026 || i == 5000028) (by kernel_rfl) Tryz.func31 (by kernel_rfl) rfl rfl (Nat.le_of_ble_eq_true rfl) (by kernel_rfl) rfl rfl ?_
  simp -implicitDefEqProofs
  refine newK2 1000000 1000001 5 (by simp) (by kernel_rfl) (by simp) (by simp) (fun b => ?_)
  simp -implicitDefEqProofs
  refine loopN (List.length s) (fun k τ => τ 0 = .d (.str s) ∧ τ 8 = .d (.int .i64 k) ∧ τ 7 = .d (.int .i64 s.length) ∧ τ 3 = .d (.raw (va b)) ∧ BldAt τ b (escS (s.take k))) ?_ ?_
  · exact ⟨by simp, by simp, by simp, by simp, .nilp, .slice none 0 0, .inl rfl, by simp [zTX61], by simp [escS, bytesD]⟩
  rintro k τ hk ⟨h0, h8, h7, h3, p, hd, hp, hb, hh⟩
  by_cases hlt : k < List.length s
  · have h5 := escS_len (s.take k)
    rw [List.length_take, Nat.min_eq_left (by omega)] at h5
    have h6 := escS_take hlt
    simp -implicitDefEqProofs [h0, h3, h7, h8, hlt]
    refine callK (plain_fn s[k]) ?_
    by_cases hpl : plainB s[k] = true
    · simp -implicitDefEqProofs [h0, h3, h7, h8, hlt, hpl]
      refine givB [1000000, 1000001] 1000000 (writeByte_fn (s := escS (s.take k)) (hd := hd) hp s[k] (by omega)) (by simp [hb, hh]) rfl (by simp) ?_
      rintro r hs' ⟨hd1, rfl⟩
      simp -implicitDefEqProofs [h0, h3, h7, h8, hlt, takeH, putH]
      refine ⟨by omega, again hlt ⟨by simp [h0], by simp, by simp [h7], by simp [h3], .raw (va b), hd1, .inr rfl, by simp, by simp [h6, escB, hpl]⟩⟩
    · obtain ⟨q1, q2, q3, q4, q5⟩ := hexQ s[k]
      obtain ⟨r1, r2, r3⟩ := hexR s[k]
      simp -implicitDefEqProofs [h0, h3, h7, h8, hlt, hpl]
      refine givB [1000000, 1000001] 1000000 (writeByte_fn (s := escS (s.take k)) (hd := hd) hp 37 (by omega)) (by simp [hb, hh]) rfl (by simp) ?_
      rintro r hs' ⟨hd1, rfl⟩
      have hand : s[k].toNat &&& 15 = s[k].toNat % 16 := Nat.and_two_pow_sub_one_eq_mod s[k].toNat 4
      have hlt8 : s[k].toNat ≤ 255 := by have := s[k].toNat_lt; omega
      simp -implicitDefEqProofs [h0, h3, h7, h8, hlt, takeH, putH, q1, q2, q3, q4]
      refine givB [1000000, 1000001] 1000000 (writeByte_fn (b := b) (s := escS (s.take k) ++ [37]) (hd := hd1) (.inr rfl) (hexC (s[k].toNat / 16)) (by simp; omega)) (by simp) rfl (by simp) ?_
      rintro r hs' ⟨hd2, rfl⟩
      simp -implicitDefEqProofs [h0, h3, h7, h8, hlt, takeH, putH, hand, r3, q1, q2, r1, r2, hlt8]
      refine ⟨by omega, ?_⟩
      refine givB [1000000, 1000001] 1000000 (writeByte_fn (b := b) (s := escS (s.take k) ++ [37] ++ [hexC (s[k].toNat / 16)]) (hd := hd2) (.inr rfl) (hexC (s[k].toNat % 16)) (by simp; omega)) (by simp) rfl (by simp) ?_
      rintro r hs' ⟨hd3, rfl⟩
      simp -implicitDefEqProofs [h0, h3, h7, h8, hlt, takeH, putH]
      refine ⟨by omega, again hlt ⟨by simp [h0], by simp, by simp [h7], by simp [h3], .raw (va b), hd3, .inr rfl, by simp, by simp [h6, escB, hpl]⟩⟩
  · simp -implicitDefEqProofs [h0, h3, h7, h8, hlt]
    rw [List.take_of_length_le (by omega)] at hh
    refine givB [1000000, 1000001] 1000000 (string_fn (s := escS s) (hd := hd) hp) (by simp [hb, hh]) rfl (by simp) ?_
    rintro r hs' ⟨rfl, rfl⟩
    simp -implicitDefEqProofs [h0, h3, h7, h8, hlt, takeH, putH]
end Go.Proofs.Tz

/- Unescape: the plain law. -/
set_option linter.unusedVariables false
set_option linter.unusedSimpArgs false
namespace Go.Proofs.Tz
open Go.Vw Go.RowKit Go.Proofs

/-- A hexadecimal digit's value, or -1. -/
abbrev hexV (c : UInt8) : Int := ixB hexDs c
def hx (h l : UInt8) : UInt8 := UInt8.ofNat (16 * (hexV h).toNat + (hexV l).toNat)

def unesc : Str → Option Str
  | [] => some []
  | c :: r => if plainB c then (unesc r).map (c :: ·) else if c = 37 then (match r with
    | h :: l :: r' => if 0 ≤ hexV h ∧ 0 ≤ hexV l ∧ plainB (hx h l) = false then (unesc r').map (hx h l :: ·) else none
    | _ => none) else none
  termination_by s => s.length

theorem unesc_nil : unesc [] = some [] := by rw [unesc.eq_def]
theorem unesc_cons (c : UInt8) (r : Str) : unesc (c :: r) = if plainB c then (unesc r).map (c :: ·) else if c = 37 then (match r with
    | h :: l :: r' => if 0 ≤ hexV h ∧ 0 ≤ hexV l ∧ plainB (hx h l) = false then (unesc r').map (hx h l :: ·) else none
    | _ => none) else none := by rw [unesc.eq_def]; rfl
theorem hexV_hexC : ∀ n, n < 16 → hexV (hexC n) = n := by decide
theorem hexV_lt (c : UInt8) (h : 0 ≤ hexV c) : (hexV c).toNat < 16 := by
  have := ixB_lt h
  simpa using this
theorem hx_nat (h l : UInt8) (h1 : 0 ≤ hexV h) (h2 : 0 ≤ hexV l) : (hx h l).toNat = 16 * (hexV h).toNat + (hexV l).toNat := by
  have := hexV_lt h h1
  have := hexV_lt l h2
  rw [hx, UInt8.toNat_ofNat']
  omega
theorem hx_hexC (c : UInt8) : hx (hexC (c.toNat / 16)) (hexC (c.toNat % 16)) = c := by
  have := c.toNat_lt
  rw [hx, hexV_hexC _ (by omega), hexV_hexC _ (by omega)]
  have : 16 * ((c.toNat / 16 : Nat) : Int).toNat + ((c.toNat % 16 : Nat) : Int).toNat = c.toNat := by omega
  rw [this, UInt8.ofNat_toNat]
theorem plain37 : plainB 37 = false := by decide

theorem unesc_esc (t : Str) : unesc (escS t) = some t := by
  induction t with
  | nil => simp [escS, unesc_nil]
  | cons c t ih =>
    have e : escS (c :: t) = escB c ++ escS t := by simp [escS]
    rw [e]
    have := c.toNat_lt
    by_cases hp : plainB c = true
    · simp [escB, hp, unesc_cons, ih]
    · have hp' : plainB c = false := by simpa using hp
      simp only [escB, hp', Bool.false_eq_true, if_false, List.cons_append, List.nil_append]
      rw [unesc_cons]
      simp only
      rw [hexV_hexC _ (by omega), hexV_hexC _ (by omega), hx_hexC]
      have b1 : (0 : Int) ≤ ((c.toNat / 16 : Nat) : Int) := Int.natCast_nonneg _
      have b2 : (0 : Int) ≤ ((c.toNat % 16 : Nat) : Int) := Int.natCast_nonneg _
      rw [if_neg (by simp [plain37]), if_pos trivial, if_pos ⟨b1, b2, hp'⟩, ih]
      rfl

theorem drop_s {s : Str} {k : Nat} (h : k < List.length s) : s.drop k = s[k] :: s.drop (k + 1) := List.drop_eq_getElem_cons h
end Go.Proofs.Tz

/- Unescape: the walks. -/
set_option maxRecDepth 100000
set_option maxHeartbeats 4000000
set_option linter.unusedVariables false
set_option linter.unusedSimpArgs false
namespace Go.Proofs.Tz
open Go.Vw Go.RowKit Go.Proofs

theorem again' {N k k' : Nat} {I : Nat → St → Prop} {τ : St} (hk : k < k') (hk' : k' ≤ N) (h : I k' τ) : Again N k I τ := ⟨N - k', by omega, k', hk', rfl, h⟩

theorem ixB_at {c : UInt8} : ∀ {s : Str} {k : Nat} (h : k < s.length), s[k] = c → c ∉ s.take k → ixB s c = k
  | [], k, h, _, _ => by simp at h
  | x :: s, 0, h, he, _ => by
    simp only [List.getElem_cons_zero] at he
    simp [ixB, Go.Lib.indexByte, he]
  | x :: s, k + 1, h, he, hn => by
    simp only [List.take_succ_cons, List.mem_cons, not_or] at hn
    have := ixB_at (s := s) (k := k) (by simpa using h) (by simpa using he) hn.2
    have hx : (x == c) = false := by simpa using fun e => hn.1 e.symm
    simp only [ixB] at this
    simp only [ixB, Go.Lib.indexByte, hx, this]
    have h2 : ((k : Int) == -1) = false := by simp
    simp [h2]
def unescP (s : Str) : Str × Int := match unesc s with
  | some t => (t, 0)
  | none => ([], 4)

theorem unesc_len : ∀ (n : Nat) (s t : Str), s.length ≤ n → unesc s = some t → t.length ≤ s.length := by
  intro n
  induction n with
  | zero =>
    intro s t hn h
    have : s = [] := List.length_eq_zero_iff.1 (by omega)
    subst this
    simp [unesc_nil] at h
    subst h; simp
  | succ n ih =>
    intro s t hn h
    cases s with
    | nil => simp [unesc_nil] at h; subst h; simp
    | cons c r =>
      rw [unesc_cons] at h
      split at h
      · obtain ⟨u, hu, rfl⟩ := Option.map_eq_some_iff.1 h
        have := ih r u (by simpa using hn) hu
        simpa using this
      · split at h
        · split at h
          · split at h
            · obtain ⟨u, hu, rfl⟩ := Option.map_eq_some_iff.1 h
              have := ih _ u (by simp at hn; omega) hu
              simp at this ⊢; omega
            · cases h
          · cases h
        · cases h

theorem unesc_short {r : Str} (h : r.length ≤ 1) : unesc (37 :: r) = none := by
  rw [unesc_cons, if_neg (by simp [plain37]), if_pos rfl]
  match r, h with
  | [], _ => rfl
  | [_], _ => rfl
  | _ :: _ :: _, h => simp at h
theorem unesc_two (a l : UInt8) (r : Str) : unesc (37 :: a :: l :: r) = if 0 ≤ hexV a ∧ 0 ≤ hexV l ∧ plainB (hx a l) = false then (unesc r).map (hx a l :: ·) else none := by
  rw [unesc_cons, if_neg (by simp [plain37]), if_pos rfl]
theorem unesc_bad {c : UInt8} {r : Str} (h1 : ¬ plainB c = true) (h2 : c ≠ 37) : unesc (c :: r) = none := by
  rw [unesc_cons, if_neg h1, if_neg h2]
theorem unescP_none {s : Str} (h : unesc s = none) : unescP s = ([], 4) := by simp [unescP, h]
theorem unescP_some {s t : Str} (h : unesc s = some t) : unescP s = (t, 0) := by simp [unescP, h]

theorem unescape_fn (s : Str) (hs : List.length s < 1000000) : Ctr Tryz.prog 65 [.d (.str s)] (.tup [.d (.str (unescP s).1), .d (.int .i64 (unescP s).2)]) := by
  refine fn_of_vwpN (rv := .tmp 2) (rs := [.tmp 3]) (r := .d (.str (unescP s).1)) (ys := [.d (.int .i64 (unescP s).2)]) (fun i => i == 1000004 || i == 5000021 || i == 5000062 || i == 5000065) (by kernel_rfl) Tryz.func65 (by kernel_rfl) rfl rfl (by simp) (Nat.le_of_ble_eq_true rfl) (by kernel_rfl) rfl rfl ?_
  simp -implicitDefEqProofs
  refine newK2 1000000 1000001 5 (by simp) (by kernel_rfl) (by simp) (by simp) (fun b => ?_)
  simp -implicitDefEqProofs
  refine loopN (List.length s) (fun k τ => τ 0 = .d (.str s) ∧ τ 5 = .d (.int .i64 k) ∧ τ 4 = .d (.raw (va b)) ∧ ∃ out, BldAt τ b out ∧ out.length ≤ k ∧ unesc s = (unesc (s.drop k)).map (out ++ ·)) ?_ ?_
  · exact ⟨by simp, by simp, by simp, [], ⟨.nilp, .slice none 0 0, .inl rfl, by simp [zTX61], by simp [bytesD]⟩, by simp, by simp⟩
  rintro k τ hk ⟨h0, h5, h4, out, ⟨p, hd, hp, hb, hh⟩, hol, hu⟩
  by_cases hlt : k < List.length s
  · have hdr := drop_s hlt
    simp -implicitDefEqProofs [h0, h4, h5, hlt]
    refine callK (plain_fn s[k]) ?_
    by_cases hpl : plainB s[k] = true
    · simp -implicitDefEqProofs [h0, h4, h5, hlt, hpl]
      refine givB [1000000, 1000001] 1000000 (writeByte_fn (s := out) (hd := hd) hp s[k] (by omega)) (by simp [hb, hh]) rfl (by simp) ?_
      rintro r hs' ⟨hd1, rfl⟩
      simp -implicitDefEqProofs [h0, h4, h5, hlt, takeH, putH]
      refine ⟨by omega, again hlt ⟨by simp [h0], by simp, by simp [h4], out ++ [s[k]], ⟨.raw (va b), hd1, .inr rfl, by simp, by simp⟩, by simp; omega, ?_⟩⟩
      rw [hu, hdr, unesc_cons, if_pos hpl]
      cases unesc (s.drop (k + 1)) <;> simp
    · by_cases h37 : (s[k].toNat : Int) = 37
      · have h37' : s[k] = 37 := (u8_int s[k] 37 (by omega)).1 h37
        by_cases h2 : (List.length s : Int) ≤ (k : Int) + 2
        · simp -implicitDefEqProofs [h0, h4, h5, hlt, hpl, h37, h2]
          refine ⟨by omega, ?_⟩
          rw [hdr, h37', unesc_short (by simp; omega)] at hu
          simp [unescP_none hu]
        · have l1 : k + 1 < List.length s := by omega
          have l2 : k + 2 < List.length s := by omega
          have i1 : (0 : Int) ≤ (k : Int) + 1 := by omega
          have i2 : (0 : Int) ≤ (k : Int) + 2 := by omega
          have j1 : ((k : Int) + 1).toNat = k + 1 := by omega
          have j2 : ((k : Int) + 2).toNat = k + 2 := by omega
          have g1 : s[k + 1]? = some s[k + 1] := List.getElem?_eq_getElem l1
          have g2 : s[k + 2]? = some s[k + 2] := List.getElem?_eq_getElem l2
          have hdr2 : s.drop k = 37 :: s[k + 1] :: s[k + 2] :: s.drop (k + 3) := by rw [hdr, h37', drop_s l1, drop_s l2]
          rw [hdr2, unesc_two] at hu
          simp only [hexV] at hu
          simp -implicitDefEqProofs [h0, h4, h5, hlt, hpl, h37, h2, i1, i2, j1, j2, g1, g2]
          refine ⟨by omega, by omega, callP (indexByte_fn hexDs s[k + 1]) ?_⟩
          simp -implicitDefEqProofs [h0, h4, h5, hlt, hpl, h37, h2, i1, i2, j1, j2, g1, g2]
          refine ⟨by omega, callP (indexByte_fn hexDs s[k + 2]) ?_⟩
          by_cases v1 : ixB hexDs s[k + 1] < 0
          · simp -implicitDefEqProofs [h0, h4, h5, hlt, v1]
            rw [if_neg (by omega)] at hu
            simp [unescP_none hu]
          by_cases v2 : ixB hexDs s[k + 2] < 0
          · simp -implicitDefEqProofs [h0, h4, h5, hlt, v1, v2]
            rw [if_neg (by omega)] at hu
            simp [unescP_none hu]
          have u1 : 0 ≤ ixB hexDs s[k + 1] := by omega
          have u2 : 0 ≤ ixB hexDs s[k + 2] := by omega
          have w1 : (ixB hexDs s[k + 1]).toNat < 16 := hexV_lt s[k + 1] u1
          have w2 : (ixB hexDs s[k + 2]).toNat < 16 := hexV_lt s[k + 2] u2
          have x1 : (hx s[k + 1] s[k + 2]).toNat = 16 * (ixB hexDs s[k + 1]).toNat + (ixB hexDs s[k + 2]).toNat := hx_nat s[k + 1] s[k + 2] u1 u2
          obtain ⟨A, hA⟩ := Int.eq_ofNat_of_zero_le u1
          obtain ⟨B, hB⟩ := Int.eq_ofNat_of_zero_le u2
          have v3 : ¬ ((A : Int) < 0) := by omega
          have v4 : ¬ ((B : Int) < 0) := by omega
          simp only [hA, hB, Int.toNat_natCast] at w1 w2 x1
          have hor : ((A : Int) * 16).toNat ||| B = (hx s[k + 1] s[k + 2]).toNat := by
            have e1 : ((A : Int) * 16).toNat = 2 ^ 4 * A := by omega
            rw [e1, x1, ← Nat.two_pow_add_eq_or_of_lt (by omega : B < 2 ^ 4)]
          have h8 : (hx s[k + 1] s[k + 2]).toNat ≤ 255 := by omega
          simp -implicitDefEqProofs [h0, h4, h5, hlt, hA, hB, v3, v4, hor]
          refine ⟨by omega, by omega, by omega, by omega, by omega, callK (plain_fn (hx s[k + 1] s[k + 2])) ?_⟩
          by_cases hpx : plainB (hx s[k + 1] s[k + 2]) = true
          · simp -implicitDefEqProofs [h0, h4, h5, hlt, hA, hB, v3, v4, hpx]
            rw [if_neg (by simp [hpx])] at hu
            simp [unescP_none hu]
          · have hpx' : plainB (hx s[k + 1] s[k + 2]) = false := by simpa using hpx
            simp -implicitDefEqProofs [h0, h4, h5, hlt, hA, hB, v3, v4, hor, hpx]
            refine ⟨by omega, by omega, by omega, by omega, by omega, ?_⟩
            refine givB [1000000, 1000001] 1000000 (writeByte_fn (s := out) (hd := hd) hp (hx s[k + 1] s[k + 2]) (by omega)) (by simp [hb, hh]) rfl (by simp) ?_
            rintro r hs' ⟨hd1, rfl⟩
            simp -implicitDefEqProofs [h0, h4, h5, hlt, takeH, putH]
            refine ⟨by omega, by omega, again' (k' := k + 3) (by omega) (by omega) ⟨by simp [h0], by simp; omega, by simp [h4], out ++ [hx s[k + 1] s[k + 2]], ⟨.raw (va b), hd1, .inr rfl, by simp, by simp⟩, by simp; omega, ?_⟩⟩
            rw [if_pos ⟨u1, u2, hpx'⟩] at hu
            rw [hu]
            cases unesc (s.drop (k + 3)) <;> simp
      · have h37' : s[k] ≠ 37 := fun e => h37 ((u8_int s[k] 37 (by omega)).2 e)
        rw [hdr, unesc_bad hpl h37'] at hu
        simp -implicitDefEqProofs [h0, h4, h5, hlt, hpl, h37]
        simp [unescP_none hu]
  · simp -implicitDefEqProofs [h0, h4, h5, hlt]
    rw [List.drop_of_length_le (by omega), unesc_nil] at hu
    simp only [Option.map_some, List.append_nil] at hu
    refine givB [1000000, 1000001] 1000000 (string_fn (s := out) (hd := hd) hp) (by simp [hb, hh]) rfl (by simp) ?_
    rintro r hs' ⟨rfl, rfl⟩
    simp -implicitDefEqProofs [h0, h4, h5, hlt, takeH, putH, unescP_some hu]

end Go.Proofs.Tz

/- strings.Split at one byte. -/
set_option maxRecDepth 100000
set_option maxHeartbeats 4000000
set_option linter.unusedVariables false
set_option linter.unusedSimpArgs false
namespace Go.Proofs.Tz
open Go.Vw Go.RowKit Go.Proofs

/-- The pieces between the bytes c. -/
def splitB (c : UInt8) : Str → List Str
  | [] => [[]]
  | x :: s => if x = c then [] :: splitB c s else (match splitB c s with
    | p :: ps => (x :: p) :: ps
    | [] => [[x]])

theorem splitB_ne (c : UInt8) (s : Str) : splitB c s ≠ [] := by
  cases s with
  | nil => simp [splitB]
  | cons x s =>
    simp only [splitB]
    split
    · simp
    · cases splitB c s <;> simp
theorem splitB_len (c : UInt8) (s : Str) : (splitB c s).length = s.count c + 1 := by
  induction s with
  | nil => simp [splitB]
  | cons x s ih =>
    simp only [splitB]
    by_cases hx : x = c
    · simp [hx, ih]
    · rw [if_neg hx]
      have h2 : (x :: s).count c = s.count c := by simp [List.count_cons, hx]
      rw [h2, ← ih]
      cases hs : splitB c s with
      | nil => exact absurd hs (splitB_ne c s)
      | cons p ps => simp
theorem splitB_none {c : UInt8} {s : Str} (h : c ∉ s) : splitB c s = [s] := by
  induction s with
  | nil => rfl
  | cons x s ih =>
    simp only [List.mem_cons, not_or] at h
    simp only [splitB, if_neg (fun e : x = c => h.1 e.symm), ih h.2]
theorem splitB_at {c : UInt8} : ∀ {s : Str} {k : Nat}, ixB s c = k → splitB c s = s.take k :: splitB c (s.drop (k + 1))
  | [], k, h => by simp [ixB, Go.Lib.indexByte] at h
  | x :: s, k, h => by
    have hge := Go.Lib.indexByte_ge s c
    simp only [ixB, Go.Lib.indexByte] at h
    by_cases hx : x = c
    · simp only [hx, beq_self_eq_true, if_true] at h
      obtain rfl : k = 0 := by omega
      simp [splitB, hx]
    · have hx' : (x == c) = false := by simpa using hx
      simp only [hx', Bool.false_eq_true, if_false] at h
      by_cases h2 : Go.Lib.indexByte s c = -1
      · simp [h2] at h
      · have h3 : (Go.Lib.indexByte s c == -1) = false := by simpa using h2
        simp only [h3, Bool.false_eq_true, if_false] at h
        obtain ⟨k', rfl⟩ : ∃ k', k = k' + 1 := ⟨k - 1, by omega⟩
        have ih := splitB_at (s := s) (k := k') (by show Go.Lib.indexByte s c = _; omega)
        simp only [splitB, if_neg hx, ih, List.take_succ_cons, List.drop_succ_cons]
theorem count_at {c : UInt8} {s : Str} {k : Nat} (h : ixB s c = k) : s.count c = (s.drop (k + 1)).count c + 1 := by
  have h1 := splitB_len c s
  rw [splitB_at h, List.length_cons, splitB_len] at h1
  omega
theorem count_zero {c : UInt8} {s : Str} (h : ixB s c < 0) : s.count c = 0 := List.count_eq_zero.2 ((ixB_neg s c).1 h)

theorem strIndex_fn (s : Str) (c : UInt8) (hl : s.length ≤ 140737488355328) : Ctr Tryz.prog 119 [.d (.str s), .d (.str [c])] (.d (.int .i64 (ixB s c))) := by
  refine fn_of_vwp (fun _ => false) (by kernel_rfl) Tryz.func119 (by kernel_rfl) rfl rfl (Nat.le_of_ble_eq_true rfl) (by kernel_rfl) rfl rfl ?_
  simp -implicitDefEqProofs
  refine callK (indexL_fn s c hl) ?_
  simp -implicitDefEqProofs

theorem rep_at {done : List Str} {k n : Nat} (hd : done.length = k) : (done.map D.str ++ List.replicate (n + 1) (D.str []))[k]? = some (.str []) := by
  rw [List.getElem?_append_right (by simp [hd])]
  simp [hd]
theorem rep_set {done : List Str} {k n : Nat} (hd : done.length = k) (p : Str) : (done.map D.str ++ List.replicate (n + 1) (D.str [])).set k (.str p) = (done ++ [p]).map D.str ++ List.replicate n (D.str []) := by
  rw [List.set_append_right _ _ (by simp [hd])]
  simp [hd, List.replicate_succ]
theorem genSplit_fn (s : Str) (c : UInt8) (hl : s.length < 1000000) : Ctr Tryz.prog 82 [.d (.str s), .d (.str [c]), .d (.int .i64 0), .d (.int .i64 (-1))] (.own true 9 ((splitB c s).map .str)) := by
  refine fn_of_vwp (fun i => decide (i < 1000000)) (by kernel_rfl) Tryz.func82 (by kernel_rfl) rfl rfl (Nat.le_of_ble_eq_true rfl) (by kernel_rfl) rfl rfl ?_
  simp -implicitDefEqProofs
  refine callK (count_fn s c (by omega)) ?_
  have hc : s.count c ≤ s.length := List.count_le_length
  have hnc : ¬ List.length s < s.count c := by omega
  have z1 : ((s.count c : Int) + 1 - 1) = (s.count c : Int) := by omega
  have z2 : ((s.count c : Int) + 1).toNat = s.count c + 1 := by omega
  simp -implicitDefEqProofs [hnc, z1, z2]
  refine ⟨by omega, by omega, by omega, by omega, by omega, by omega, ?_⟩
  refine loopN (s.count c) (fun k τ => τ 1 = .d (.str [c]) ∧ τ 2 = .d (.int .i64 0) ∧ τ 3 = .d (.int .i64 (s.count c)) ∧ τ 10 = .d (.int .i64 k) ∧ ∃ rest done, τ 0 = .d (.str rest) ∧ List.length done = k ∧ List.length rest ≤ List.length s ∧
    τ 9 = .own true 9 (done.map .str ++ List.replicate (s.count c - k + 1) (.str [])) ∧ splitB c s = done ++ splitB c rest ∧ rest.count c = s.count c - k) ?_ ?_
  · refine ⟨by simp, by simp, by simp [z1], by simp, s, [], by simp, by simp, by simp, by simp, by simp, by simp⟩
  rintro k τ hk ⟨h1, h2, h3, h10, rest, done, h0, hd, hrl, h9, hsp, hct⟩
  by_cases hlt : k < s.count c
  · have hlt' : (k : Int) < (s.count c : Int) := by omega
    simp -implicitDefEqProofs [h0, h1, h2, h3, h9, h10, hlt']
    refine callK (strIndex_fn rest c (by omega)) ?_
    have hin : ¬ ixB rest c < 0 := fun h => by have := count_zero h; omega
    obtain ⟨m, hm⟩ := Int.eq_ofNat_of_zero_le (show 0 ≤ ixB rest c by omega)
    have hml := ixB_lt (show 0 ≤ ixB rest c by omega)
    simp only [hm, Int.toNat_natCast] at hml
    have hm0 : ¬ ((m : Int) < 0) := by omega
    have hm1 : (0 : Int) ≤ (m : Int) + 1 := by omega
    have hm2 : ((m : Int) + 1).toNat = m + 1 := by omega
    have hg : ∀ h, (done.map D.str ++ List.replicate (s.count c - k + 1) (D.str []))[k]'h = D.str [] := fun h => by
      have := rep_at (n := s.count c - k) hd
      rw [List.getElem?_eq_getElem h] at this
      simpa using this
    have hk1 : (0 : Int) ≤ (k : Int) + 1 := by omega
    have hkd : k < List.length done + (s.count c - k + 1) := by omega
    have hs := rep_set (n := s.count c - k) hd (rest.take m)
    simp -implicitDefEqProofs [h0, h1, h2, h3, h9, h10, hlt', hm, hm0, hm1, hm2, hg, hkd, hs, hk1]
    have hsp2 := splitB_at hm
    have hct2 := count_at hm
    refine ⟨by omega, by omega, by omega, by omega, by omega, again hlt ⟨by simp [h1], by simp [h2], by simp [h3], by simp, rest.drop (m + 1), ?_, done ++ [rest.take m], by simp [hd], by simp; omega, ?_, ?_, by omega⟩⟩
    · simp
      rw [List.take_of_length_le (by simp)]
    · simp
      have : s.count c - k = s.count c - (k + 1) + 1 := by omega
      rw [this]
    · rw [hsp, hsp2]; simp
  · have hke : k = s.count c := by omega
    have hlt' : ¬ (k : Int) < (s.count c : Int) := by omega
    have hg : ∀ h, (done.map D.str ++ List.replicate (s.count c - k + 1) (D.str []))[k]'h = D.str [] := fun h => by
      have := rep_at (n := s.count c - k) hd
      rw [List.getElem?_eq_getElem h] at this
      simpa using this
    have hk1 : (0 : Int) ≤ (k : Int) + 1 := by omega
    have hkd : k < List.length done + (s.count c - k + 1) := by omega
    have hs := rep_set (n := s.count c - k) hd rest
    simp -implicitDefEqProofs [h0, h1, h2, h3, h9, h10, hlt', hg, hkd, hs, hk1]
    have hrest : splitB c rest = [rest] := splitB_none (List.count_eq_zero.1 (by omega))
    refine ⟨by omega, by omega, ?_⟩
    rw [hsp, hrest]
    have : (done.map D.str).length = k := by simp [hd]
    rw [List.take_append, List.take_of_length_le (by omega), this]
    simp

theorem split_fn (s : Str) (c : UInt8) (hl : s.length < 1000000) : Ctr Tryz.prog 64 [.d (.str s), .d (.str [c])] (.own true 9 ((splitB c s).map .str)) := by
  refine fn_of_vwp (fun i => decide (i < 1000000)) (by kernel_rfl) Tryz.func64 (by kernel_rfl) rfl rfl (Nat.le_of_ble_eq_true rfl) (by kernel_rfl) rfl rfl ?_
  simp -implicitDefEqProofs
  refine callK (genSplit_fn s c hl) ?_
  simp -implicitDefEqProofs
end Go.Proofs.Tz

/- General facts on lists, pieces of strings and their escapes (no program in sight). -/
set_option linter.unusedVariables false
set_option linter.unusedSimpArgs false
namespace Go.Proofs.Tz
open Go.Vw Go.RowKit Go.Proofs

theorem drop_c {α : Type} {l : List α} {k : Nat} (h : k < l.length) : l.drop k = l[k] :: l.drop (k + 1) := List.drop_eq_getElem_cons h
def unescL : List Str → Option (List Str)
  | [] => some []
  | p :: ps => match unesc p with
    | some x => (unescL ps).map (x :: ·)
    | none => none
theorem unescL_app : ∀ (a b : List Str), unescL (a ++ b) = match unescL a with
    | some x => (unescL b).map (x ++ ·)
    | none => none
  | [], b => by simp [unescL]
  | p :: a, b => by
    simp only [List.cons_append, unescL, unescL_app a b]
    cases unesc p with
    | none => rfl
    | some x =>
      cases unescL a with
      | none => rfl
      | some y => cases unescL b <;> simp
theorem unescL_len : ∀ {a x : List Str}, unescL a = some x → x.length = a.length
  | [], x, h => by simp [unescL] at h; subst h; rfl
  | p :: a, x, h => by
    simp only [unescL] at h
    split at h
    · obtain ⟨y, hy, rfl⟩ := Option.map_eq_some_iff.1 h
      simp [unescL_len hy]
    · cases h
theorem unescL_fit : ∀ {a x : List Str} {n : Nat}, unescL a = some x → (∀ p ∈ a, List.length p ≤ n) → ∀ y ∈ x, List.length y ≤ n
  | [], x, n, h, _ => by simp [unescL] at h; subst h; simp
  | p :: a, x, n, h, hn => by
    simp only [unescL] at h
    split at h
    · rename_i z hz
      obtain ⟨y, hy, rfl⟩ := Option.map_eq_some_iff.1 h
      intro q hq
      rcases List.mem_cons.1 hq with rfl | hq
      · exact Nat.le_trans (unesc_len _ _ _ (Nat.le_refl _) hz) (hn p (by simp))
      · exact unescL_fit hy (fun p hp => hn p (by simp [hp])) q hq
    · cases h
theorem splitB_le (c : UInt8) : ∀ (s : Str), ∀ p ∈ splitB c s, List.length p ≤ s.length
  | [], p, hp => by simp [splitB] at hp; subst hp; simp
  | x :: s, p, hp => by
    simp only [splitB] at hp
    split at hp
    · rcases List.mem_cons.1 hp with rfl | hp
      · simp
      · have := splitB_le c s p hp; simp; omega
    · cases hs : splitB c s with
      | nil => rw [hs] at hp; simp at hp; subst hp; simp
      | cons q qs =>
        rw [hs] at hp
        simp only at hp
        have ih := splitB_le c s
        rw [hs] at ih
        rcases List.mem_cons.1 hp with rfl | hp
        · have := ih q (by simp); simp; omega
        · have := ih p (by simp [hp]); simp; omega
theorem hexC_safe : ∀ n, n < 16 → 33 ≤ (hexC n).toNat ∧ (hexC n).toNat ≤ 126 := by decide
theorem escS_safe {s : Str} {c : UInt8} (h : c ∈ escS s) : 33 ≤ c.toNat ∧ c.toNat ≤ 126 := by
  simp only [escS, List.mem_flatMap] at h
  obtain ⟨x, _, hx⟩ := h
  have hlt := x.toNat_lt
  unfold escB at hx
  split at hx
  · rename_i hp
    rw [List.mem_singleton] at hx
    subst hx
    simp only [plainB, decide_eq_true_eq] at hp
    omega
  · simp only [List.mem_cons, List.not_mem_nil, or_false] at hx
    rcases hx with rfl | rfl | rfl
    · decide
    · exact hexC_safe _ (by omega)
    · exact hexC_safe _ (by omega)
theorem escS_no10 (s : Str) : (10 : UInt8) ∉ escS s := fun h => by have := (escS_safe h).1; revert this; decide
theorem escS_no32 (s : Str) : (32 : UInt8) ∉ escS s := fun h => by have := (escS_safe h).1; revert this; decide
theorem ixB_mid {c : UInt8} {a b : Str} (h : c ∉ a) : ixB (a ++ c :: b) c = List.length a :=
  ixB_at (by simp) (by simp) (by simpa using h)
theorem splitB_mid {c : UInt8} {a b : Str} (h : c ∉ a) : splitB c (a ++ c :: b) = a :: splitB c b := by
  have e1 : List.take (List.length a) (a ++ c :: b) = a := by simp
  have e2 : List.drop (List.length a + 1) (a ++ c :: b) = b := by rw [← List.drop_drop]; simp
  rw [splitB_at (ixB_mid h), e1, e2]
/-- All of a list are so. -/
def AllB {α : Type} (p : α → Bool) (l : List α) : Prop := ∀ x ∈ l, p x = true
theorem AllB.nil {α : Type} {p : α → Bool} : AllB p [] := fun _ h => by simp at h
theorem AllB.snoc {α : Type} {p : α → Bool} {l m : List α} {x : α} (h : AllB p l) (hx : p x = true) (e : m = l ++ [x]) : AllB p m := fun y hy => by
  rw [e, List.mem_append, List.mem_singleton] at hy
  rcases hy with hy | rfl
  · exact h y hy
  · exact hx
theorem AllB.all {α : Type} {p : α → Bool} {l : List α} (h : AllB p l) : l.all p = true := List.all_eq_true.2 h
end Go.Proofs.Tz

/- Patch operations: what they are, and what they do: definitions and plain facts. -/
set_option linter.unusedVariables false
set_option linter.unusedSimpArgs false
namespace Go.Proofs.Tz
open Go.Vw Go.Lib

abbrev oAdd : Str := [97, 100, 100]
abbrev oRem : Str := [114, 101, 109, 111, 118, 101]
abbrev oRepl : Str := [114, 101, 112, 108, 97, 99, 101]
/-- An operation: its kind, its path, its values. -/
abbrev POp := Str × Str × List Str
def popD (x : POp) : D := .agg [.str x.1, .str x.2.1, strs x.2.2]
def pops (l : List POp) : D := .sl (l.map popD)
def FitP (l : List POp) : Prop := l.length < 1000000 ∧ ∀ x ∈ l, List.length x.1 < 1000000 ∧ List.length x.2.1 < 1000000 ∧ x.2.2.length < 1000000 ∧ ∀ v ∈ x.2.2, List.length v < 1000000

/-- A path: name, value, error. -/
def pathV (n v : Str) : Str × Str × Int := if v.getLast? = some 93 ∧ cleanB v.dropLast = true then (n, v.dropLast, 0) else ([], [], 4)
def pathP (s : Str) : Str × Str × Int :=
  if nameB (cutB s 91).1 = false then ([], [], 5) else if (cutB s 91).2.2 = false then ((cutB s 91).1, [], 0) else pathV (cutB s 91).1 (cutB s 91).2.1

def opB (o : Str) : Bool := decide (o = oAdd) || decide (o = oRem) || decide (o = oRepl)
def fitsP (o v : Str) (vs : List Str) : Bool := if o = oAdd then decide (v = []) && decide (vs ≠ []) else if o = oRem then decide (vs = []) else decide (v = []) || decide (vs.length = 1)
def chkW : List Str → List Str → Int
  | _, [] => 0
  | b, v :: l => if cleanB v = false then 8 else if v ∈ b then 7 else chkW (b ++ [v]) l
def valsP (vs : List Str) : Int := if 16 < vs.length then 3 else chkW [] vs
def chkOp (x : POp) : Int :=
  if opB x.1 = false then 2 else if (pathP x.2.1).2.2 ≠ 0 then (pathP x.2.1).2.2 else if fitsP x.1 (pathP x.2.1).2.1 x.2.2 = false then 4 else valsP x.2.2
def chkOps : List POp → Int
  | [] => 0
  | x :: l => if chkOp x = 0 then chkOps l else chkOp x
def checkP (l : List POp) : Int := if 32 < l.length then 3 else chkOps l

/-- The values that are not there. -/
def missL (old vs : List Str) : List Str := vs.filter fun v => !decide (v ∈ old)
def remL (old : List Str) (v : Str) : List Str := old.filter fun x => !decide (x = v)
/-- The values of an attribute after an operation; none: there is no such value. -/
def nowP (old : List Str) (o v : Str) (vs : List Str) : Option (List Str) :=
  if o = oAdd then some (old ++ missL old vs)
  else if o = oRem then (if v = [] then some [] else some (remL old v))
  else if v = [] then some vs
  else if v ∈ old then some (remL old v ++ missL (remL old v) vs)
  else none
/-- The attribute that an operation is about, and its part. -/
def nameP (x : POp) : Str := lower (pathP x.2.1).1
def partP (x : POp) : Str := (pathP x.2.1).2.1
def stepP (out : List Att) (x : POp) : List Att × Int := match nowP (getL out (nameP x)) x.1 (partP x) x.2.2 with
  | none => ([], 6)
  | some now => if 16 < now.length ∨ 32 < (setL (sortedL out) (nameP x) now).length then ([], 3) else (setL (sortedL out) (nameP x) now, 0)
def goP : List Att → List POp → List Att × Int
  | out, [] => (out, 0)
  | out, x :: l => if (stepP out x).2 = 0 then goP (stepP out x).1 l else stepP out x
def applyP (a : List Att) (l : List POp) : List Att × Int :=
  if checkL a = 0 then (if checkP l = 0 then goP (sortedL a) l else ([], checkP l)) else ([], checkL a)

/-! ### checks -/
theorem chkW_zero : ∀ (l b : List Str), chkW b l = 0 ↔ (∀ v ∈ l, cleanB v = true ∧ v ∉ b) ∧ l.Nodup
  | [], b => by simp [chkW]
  | v :: l, b => by
    rw [chkW]
    by_cases h1 : cleanB v = false
    · simp [h1]
    · by_cases h2 : v ∈ b
      · simp [h1, h2]
      · rw [if_neg h1, if_neg h2, chkW_zero l (b ++ [v]), List.nodup_cons]
        have h1' : cleanB v = true := by simpa using h1
        constructor
        · rintro ⟨h3, h4⟩
          refine ⟨fun x hx => ?_, fun hv => ?_, h4⟩
          · rcases List.mem_cons.1 hx with rfl | hx
            · exact ⟨h1', h2⟩
            · have := h3 x hx
              exact ⟨this.1, fun hb => this.2 (by simp [hb])⟩
          · exact (h3 v hv).2 (by simp)
        · rintro ⟨h3, h4, h5⟩
          refine ⟨fun x hx => ⟨(h3 x (by simp [hx])).1, fun hb => ?_⟩, h5⟩
          rcases List.mem_append.1 hb with hb | hb
          · exact (h3 x (by simp [hx])).2 hb
          · rw [List.mem_singleton] at hb
            subst hb
            exact h4 hx
theorem valsP_zero (vs : List Str) : valsP vs = 0 ↔ vs.length ≤ 16 ∧ (∀ v ∈ vs, cleanB v = true) ∧ vs.Nodup := by
  unfold valsP
  by_cases h : 16 < vs.length
  · rw [if_pos h]
    constructor
    · intro h; simp at h
    · rintro ⟨h1, _⟩; omega
  · rw [if_neg h, chkW_zero]
    simp only [List.not_mem_nil, not_false_eq_true, and_true]
    constructor
    · rintro ⟨h1, h2⟩; exact ⟨by omega, h1, h2⟩
    · rintro ⟨_, h1, h2⟩; exact ⟨h1, h2⟩

/-- What is known of an operation that Check accepts. -/
structure OkOp (x : POp) : Prop where
  op : opB x.1 = true
  path : (pathP x.2.1).2.2 = 0
  fit : fitsP x.1 (partP x) x.2.2 = true
  len : x.2.2.length ≤ 16
  clean : ∀ v ∈ x.2.2, cleanB v = true
  nod : x.2.2.Nodup
theorem chkOp_zero (x : POp) : chkOp x = 0 ↔ OkOp x := by
  unfold chkOp
  by_cases h1 : opB x.1 = false
  · rw [if_pos h1]
    exact ⟨fun h => by simp at h, fun h => by have := h.op; rw [h1] at this; cases this⟩
  rw [if_neg h1]
  by_cases h2 : (pathP x.2.1).2.2 = 0
  · rw [if_neg (by simpa using h2)]
    by_cases h3 : fitsP x.1 (pathP x.2.1).2.1 x.2.2 = false
    · rw [if_pos h3]
      exact ⟨fun h => by simp at h, fun h => by have := h.fit; rw [partP, h3] at this; cases this⟩
    · rw [if_neg h3, valsP_zero]
      exact ⟨fun ⟨a, b, c⟩ => ⟨by simpa using h1, h2, by simpa [partP] using h3, a, b, c⟩, fun h => ⟨h.len, h.clean, h.nod⟩⟩
  · rw [if_pos (by simpa using h2)]
    exact ⟨fun h => absurd h h2, fun h => absurd h.path h2⟩
theorem chkOps_zero : ∀ (l : List POp), chkOps l = 0 ↔ ∀ x ∈ l, OkOp x
  | [] => by simp [chkOps]
  | x :: l => by
    rw [chkOps]
    by_cases h : chkOp x = 0
    · rw [if_pos h, chkOps_zero l]
      simp [(chkOp_zero x).1 h]
    · rw [if_neg h]
      exact ⟨fun h' => absurd h' h, fun h' => absurd ((chkOp_zero x).2 (h' x (by simp))) h⟩
theorem checkP_zero (l : List POp) : checkP l = 0 ↔ l.length ≤ 32 ∧ ∀ x ∈ l, OkOp x := by
  unfold checkP
  by_cases h : 32 < l.length
  · rw [if_pos h]
    exact ⟨fun h => by simp at h, fun h' => by omega⟩
  · rw [if_neg h, chkOps_zero]
    exact ⟨fun h' => ⟨by omega, h'⟩, fun h' => h'.2⟩
theorem chkOps_app : ∀ (a b : List POp), chkOps (a ++ b) = if chkOps a = 0 then chkOps b else chkOps a
  | [], b => by simp [chkOps]
  | r :: a, b => by
    simp only [List.cons_append, chkOps, chkOps_app a b]
    by_cases h : chkOp r = 0 <;> simp [h]

/-! ### paths -/
theorem pathP_name {s : Str} (h : (pathP s).2.2 = 0) : nameB (pathP s).1 = true := by
  unfold pathP at h ⊢
  split at h
  · simp at h
  · rename_i hn
    have hn' : nameB (cutB s 91).1 = true := by simpa using hn
    rw [if_neg hn]
    split at h
    · rename_i hb; rw [if_pos hb]; exact hn'
    · rename_i hb
      rw [if_neg hb]
      unfold pathV at h ⊢
      split at h
      · rename_i hc; rw [if_pos hc]; exact hn'
      · simp at h
theorem nameP_low (x : POp) : lower (nameP x) = nameP x := lower_lower _
theorem nameP_name {x : POp} (h : OkOp x) : nameB (nameP x) = true := by rw [nameP, nameB_low]; exact pathP_name h.path

/-! ### one step -/
theorem has_set (out : List Att) (x : POp) (now : List Str) (n v : Str) : HasL (setL (sortedL out) (nameP x) now) n v ↔ (n ≠ nameP x ∧ HasL out n v) ∨ (n = nameP x ∧ v ∈ now) := by
  rw [hasL_set, nameP_low]
theorem mem_missL {old vs : List Str} {v : Str} : v ∈ missL old vs ↔ v ∈ vs ∧ v ∉ old := by simp [missL]
theorem mem_remL {old : List Str} {v x : Str} : x ∈ remL old v ↔ x ∈ old ∧ x ≠ v := by simp [remL]
theorem nodup_miss {old vs : List Str} (h1 : old.Nodup) (h2 : vs.Nodup) : (old ++ missL old vs).Nodup := by
  rw [List.nodup_append]
  refine ⟨h1, h2.sublist List.filter_sublist, fun x hx y hy e => ?_⟩
  subst e
  exact (mem_missL.1 hy).2 hx
theorem nodup_rem {old : List Str} (v : Str) (h1 : old.Nodup) : (remL old v).Nodup := h1.sublist List.filter_sublist
theorem now_nodup {old : List Str} {o v : Str} {vs now : List Str} (h1 : old.Nodup) (h2 : vs.Nodup) (h : nowP old o v vs = some now) : now.Nodup := by
  unfold nowP at h
  split at h
  · simp only [Option.some.injEq] at h; subst h; exact nodup_miss h1 h2
  split at h
  · split at h
    · simp only [Option.some.injEq] at h; subst h; exact List.nodup_nil
    · simp only [Option.some.injEq] at h; subst h; exact nodup_rem v h1
  split at h
  · simp only [Option.some.injEq] at h; subst h; exact h2
  split at h
  · simp only [Option.some.injEq] at h; subst h; exact nodup_miss (nodup_rem v h1) h2
  · cases h
theorem now_sub {old : List Str} {o v : Str} {vs now : List Str} (h : nowP old o v vs = some now) : ∀ x ∈ now, x ∈ old ∨ x ∈ vs := by
  intro x hx
  unfold nowP at h
  split at h
  · simp only [Option.some.injEq] at h; subst h
    rcases List.mem_append.1 hx with hx | hx
    · exact .inl hx
    · exact .inr (mem_missL.1 hx).1
  split at h
  · split at h
    · simp only [Option.some.injEq] at h; subst h; simp at hx
    · simp only [Option.some.injEq] at h; subst h; exact .inl (mem_remL.1 hx).1
  split at h
  · simp only [Option.some.injEq] at h; subst h; exact .inr hx
  split at h
  · simp only [Option.some.injEq] at h; subst h
    rcases List.mem_append.1 hx with hx | hx
    · exact .inl (mem_remL.1 hx).1
    · exact .inr (mem_missL.1 hx).1
  · cases h
theorem setL_norm (l : List Att) (n : Str) (w : List Str) : sortedL (setL l n w) = setL l n w := sorted_idem _
theorem step_ok {out r : List Att} {x : POp} (h : stepP out x = (r, 0)) : ∃ now, nowP (getL out (nameP x)) x.1 (partP x) x.2.2 = some now ∧ now.length ≤ 16 ∧ (setL (sortedL out) (nameP x) now).length ≤ 32 ∧ r = setL (sortedL out) (nameP x) now := by
  unfold stepP at h
  split at h
  · simp at h
  · rename_i now hn
    split at h
    · simp at h
    · simp only [Prod.mk.injEq, and_true] at h
      exact ⟨now, hn, by omega, by omega, h.symm⟩
theorem step_of {out : List Att} {x : POp} {now : List Str} (h1 : nowP (getL out (nameP x)) x.1 (partP x) x.2.2 = some now) (h2 : now.length ≤ 16) (h3 : (setL (sortedL out) (nameP x) now).length ≤ 32) : stepP out x = (setL (sortedL out) (nameP x) now, 0) := by
  rw [stepP, h1]
  simp only
  rw [if_neg (by omega)]
theorem step_err {out : List Att} {x : POp} (h : (stepP out x).2 ≠ 0) : (stepP out x).1 = [] := by
  unfold stepP at h ⊢
  split
  · rfl
  · rename_i now hn
    rw [hn] at h
    simp only at h
    split
    · rfl
    · rename_i hc; rw [if_neg hc] at h; exact absurd rfl h

theorem step_valid {out r : List Att} {x : POp} (hv : Valid out) (hx : OkOp x) (h : stepP out x = (r, 0)) : Valid r ∧ sortedL r = r := by
  obtain ⟨now, h1, h2, h3, rfl⟩ := step_ok h
  refine ⟨hv.set (nameP_name hx) (fun v hm => ?_) h3 ?_, setL_norm _ _ _⟩
  · rcases now_sub h1 v hm with hm | hm
    · exact (hv.has ((mem_getL _ _ _).1 hm)).2
    · exact hx.clean v hm
  · rw [getL_set_len out (nameP x) (now_nodup (SS_getL _ _).nodup hx.nod h1)]
    exact h2

theorem goP_app : ∀ (l m : List POp) (out : List Att), goP out (l ++ m) = if (goP out l).2 = 0 then goP (goP out l).1 m else goP out l
  | [], m, out => by simp [goP]
  | x :: l, m, out => by
    rw [List.cons_append, goP, goP]
    by_cases h : (stepP out x).2 = 0
    · rw [if_pos h, if_pos h]; exact goP_app l m _
    · rw [if_neg h, if_neg h, if_neg h]
theorem goP_err : ∀ (l : List POp) (out : List Att), (goP out l).2 ≠ 0 → (goP out l).1 = []
  | [], out, h => absurd rfl h
  | x :: l, out, h => by
    rw [goP] at h ⊢
    split
    · rename_i hc; rw [if_pos hc] at h; exact goP_err l _ h
    · rename_i hc; exact step_err hc
theorem goP_valid : ∀ (l : List POp) (out r : List Att), Valid out → sortedL out = out → (∀ x ∈ l, OkOp x) → goP out l = (r, 0) → Valid r ∧ sortedL r = r
  | [], out, r, hv, hs, _, h => by
    simp only [goP, Prod.mk.injEq, and_true] at h
    subst h
    exact ⟨hv, hs⟩
  | x :: l, out, r, hv, hs, hx, h => by
    rw [goP] at h
    split at h
    · rename_i hc
      have h1 : stepP out x = ((stepP out x).1, 0) := by rw [← hc]
      obtain ⟨h2, h3⟩ := step_valid hv (hx x (by simp)) h1
      exact goP_valid l _ r h2 h3 (fun y hy => hx y (by simp [hy])) h
    · rename_i hc
      rw [h] at hc
      exact absurd rfl hc
theorem applyP_err {a : List Att} {l : List POp} (h : (applyP a l).2 ≠ 0) : (applyP a l).1 = [] := by
  unfold applyP at h ⊢
  split
  · rename_i h1
    rw [if_pos h1] at h
    split
    · rename_i h2; rw [if_pos h2] at h; exact goP_err _ _ h
    · rfl
  · rfl
theorem applyP_ok {a : List Att} {l : List POp} (h : (applyP a l).2 = 0) : Valid a ∧ checkP l = 0 ∧ goP (sortedL a) l = ((applyP a l).1, 0) := by
  unfold applyP at h ⊢
  split at h
  · rename_i h1
    rw [if_pos h1]
    split at h
    · rename_i h2
      rw [if_pos h2]
      exact ⟨(check_iff a).1 h1, h2, by rw [← h]⟩
    · rename_i h2; exact absurd h h2
  · rename_i h1; exact absurd h h1
theorem applyP_valid {a : List Att} {l : List POp} (h : (applyP a l).2 = 0) : Valid (applyP a l).1 ∧ sortedL (applyP a l).1 = (applyP a l).1 := by
  obtain ⟨h1, h2, h3⟩ := applyP_ok h
  exact goP_valid l _ _ h1.sorted (sorted_idem a) ((checkP_zero l).1 h2).2 h3

/-! ### chains -/
theorem checkP_app {l m : List POp} (h : l.length + m.length ≤ 32) : checkP (l ++ m) = if checkP l = 0 then checkP m else checkP l := by
  unfold checkP
  rw [if_neg (show ¬ 32 < (l ++ m).length by simp; omega), if_neg (show ¬ 32 < l.length by omega), if_neg (show ¬ 32 < m.length by omega), chkOps_app]
end Go.Proofs.Tz

/- Patch operations: their text, and what a text says: plain laws. -/
set_option linter.unusedVariables false
set_option linter.unusedSimpArgs false
namespace Go.Proofs.Tz
open Go.Vw Go.Lib

def wordsO (vs : List Str) : Str := vs.flatMap fun v => 32 :: escS v
def line0P (x : POp) : Str := x.1 ++ 32 :: (escS x.2.1 ++ wordsO x.2.2)
def lineSP (x : POp) : Str := line0P x ++ [10]
def linesP (l : List POp) : Str := l.flatMap lineSP
def textP (l : List POp) : Str × Int := if checkP l = 0 then (if 4096 < (linesP l).length then ([], 3) else (linesP l, 0)) else ([], checkP l)
/-- An operation of its words. -/
def opOf (o : Str) : Option (List Str) → Option POp
  | some (p :: vs) => some (o, p, vs)
  | _ => none
def readW : List Str → Option POp
  | o :: ps => opOf o (unescL ps)
  | [] => none
def readP (s : Str) : Option POp := readW (splitB 32 s)

def parseGoP (s : Str) (out : List POp) : List POp × Int × Int :=
  if s = [] then (out, 0, 0)
  else if h : 0 ≤ ixB s 10 then (match readP (s.take (ixB s 10).toNat) with
    | none => ([], (out.length : Int) + 1, 4)
    | some r => if checkP (out ++ [r]) = 0 then parseGoP (s.drop ((ixB s 10).toNat + 1)) (out ++ [r]) else ([], (out.length : Int) + 1, checkP (out ++ [r])))
  else ([], (out.length : Int) + 1, 4)
  termination_by s.length
  decreasing_by
    have := ixB_lt h
    simp
    omega
def parseP (s : Str) : List POp × Int × Int := if 4096 < s.length then ([], 0, 3) else parseGoP s []

theorem parseGoP_nil (out : List POp) : parseGoP [] out = (out, 0, 0) := by rw [parseGoP.eq_def]; rfl
theorem parseGoP_no {s : Str} (out : List POp) (h1 : s ≠ []) (h2 : ixB s 10 < 0) : parseGoP s out = ([], (out.length : Int) + 1, 4) := by
  rw [parseGoP.eq_def, if_neg h1, dif_neg (by omega)]
theorem parseGoP_at {s : Str} (out : List POp) {k : Nat} (h2 : ixB s 10 = k) : parseGoP s out = match readP (s.take k) with
    | none => ([], (out.length : Int) + 1, 4)
    | some r => if checkP (out ++ [r]) = 0 then parseGoP (s.drop (k + 1)) (out ++ [r]) else ([], (out.length : Int) + 1, checkP (out ++ [r])) := by
  have h1 : s ≠ [] := fun e => by subst e; simp [ixB, Go.Lib.indexByte] at h2
  rw [parseGoP.eq_def, if_neg h1, dif_pos (by omega), h2]
  rfl

theorem unescL_map : ∀ (xs : List Str), unescL (xs.map escS) = some xs
  | [] => rfl
  | x :: xs => by simp [unescL, unesc_esc, unescL_map xs]
theorem split_words : ∀ (vs : List Str) (p : Str), splitB 32 (escS p ++ wordsO vs) = escS p :: vs.map escS
  | [], p => by simp [wordsO, splitB_none (escS_no32 p)]
  | v :: vs, p => by
    have e : escS p ++ wordsO (v :: vs) = escS p ++ 32 :: (escS v ++ wordsO vs) := by simp [wordsO]
    rw [e, splitB_mid (escS_no32 p), split_words vs v]
    rfl
theorem opB_cases {o : Str} (h : opB o = true) : o = oAdd ∨ o = oRem ∨ o = oRepl := by
  simp only [opB, Bool.or_eq_true, decide_eq_true_eq] at h
  rcases h with (h | h) | h
  · exact .inl h
  · exact .inr (.inl h)
  · exact .inr (.inr h)
theorem op_no32 {o : Str} (h : opB o = true) : (32 : UInt8) ∉ o := by
  rcases opB_cases h with rfl | rfl | rfl <;> decide
theorem op_no10 {o : Str} (h : opB o = true) : (10 : UInt8) ∉ o := by
  rcases opB_cases h with rfl | rfl | rfl <;> decide
theorem line0P_no10 {x : POp} (h : opB x.1 = true) : (10 : UInt8) ∉ line0P x := by
  simp only [line0P, List.mem_append, List.mem_cons, not_or]
  refine ⟨op_no10 h, by decide, escS_no10 _, fun hm => ?_⟩
  simp only [wordsO, List.mem_flatMap, List.mem_cons] at hm
  obtain ⟨v, _, h1 | h1⟩ := hm
  · revert h1; decide
  · exact escS_no10 v h1
theorem readP_line0 {x : POp} (h : opB x.1 = true) : readP (line0P x) = some x := by
  rw [readP, line0P, splitB_mid (op_no32 h), split_words, readW]
  have : unescL (escS x.2.1 :: x.2.2.map escS) = some (x.2.1 :: x.2.2) := unescL_map (x.2.1 :: x.2.2)
  rw [this]
  rfl
theorem linesP_cons (r : POp) (m : List POp) : linesP (r :: m) = line0P r ++ 10 :: linesP m := by simp [linesP, lineSP]
theorem checkP_left {a b : List POp} (h : checkP (a ++ b) = 0) : checkP a = 0 := by
  rw [checkP_zero] at h ⊢
  exact ⟨by have := h.1; simp at this; omega, fun x hx => h.2 x (by simp [hx])⟩
theorem parseP_lines : ∀ (m out : List POp), checkP (out ++ m) = 0 → parseGoP (linesP m) out = (out ++ m, 0, 0)
  | [], out, _ => by simp [linesP, parseGoP_nil]
  | r :: m, out, h => by
    have hr : opB r.1 = true := (((checkP_zero _).1 h).2 r (by simp)).op
    rw [linesP_cons, parseGoP_at out (ixB_mid (line0P_no10 hr))]
    have e1 : List.take (List.length (line0P r)) (line0P r ++ 10 :: linesP m) = line0P r := by simp
    have e2 : List.drop (List.length (line0P r) + 1) (line0P r ++ 10 :: linesP m) = linesP m := by
      rw [← List.drop_drop]; simp
    have h1 : checkP (out ++ [r]) = 0 := checkP_left (b := m) (by simpa using h)
    rw [e1, e2, readP_line0 hr]
    simp only [h1, if_true]
    rw [parseP_lines m (out ++ [r]) (by simpa using h)]
    simp

theorem backP1 {l : List POp} {t : Str} (h : textP l = (t, 0)) : parseP t = (l, 0, 0) := by
  unfold textP at h
  split at h
  · rename_i hc
    split at h
    · simp at h
    · rename_i h4
      simp only [Prod.mk.injEq, and_true] at h
      subst h
      rw [parseP, if_neg h4, parseP_lines l [] (by simpa using hc)]
      simp
  · rename_i hc
    simp only [Prod.mk.injEq] at h
    exact absurd h.2 hc
end Go.Proofs.Tz

/- Patch operations: Path and Check, in both. -/
set_option maxRecDepth 100000
set_option maxHeartbeats 4000000
set_option linter.unusedVariables false
set_option linter.unusedSimpArgs false
namespace Go.Proofs.Tz
open Go.Vw Go.RowKit Go.Proofs

/-- strings.CutSuffix at one byte. -/
def cutEnd (s : Str) (c : UInt8) : Str × Bool := if s.getLast? = some c then (s.dropLast, true) else (s, false)

theorem hasSuffix_fn (s : Str) (c : UInt8) (hl : List.length s < 1000000) : Ctr Tryz.prog 73 [.d (.str s), .d (.str [c])] (.d (.bool (decide (s.getLast? = some c)))) := by
  refine fn_of_vwp (fun _ => false) (by kernel_rfl) Tryz.func73 (by kernel_rfl) rfl rfl (Nat.le_of_ble_eq_true rfl) (by kernel_rfl) rfl rfl ?_
  by_cases h0 : s = []
  · subst h0
    simp -implicitDefEqProofs
  · have h1 : 1 ≤ List.length s := List.length_pos_iff.2 h0
    have h1' : (1 : Int) ≤ List.length s := by omega
    have i1 : (0 : Int) ≤ (List.length s : Int) - 1 := by omega
    have j1 : ((List.length s : Int) - 1).toNat = List.length s - 1 := by omega
    obtain ⟨t, x, rfl⟩ : ∃ t x, s = t ++ [x] := ⟨s.dropLast, s.getLast h0, (List.dropLast_concat_getLast h0).symm⟩
    have h2' : (1 : Int) ≤ (List.length t : Int) + 1 := by omega
    simp -implicitDefEqProofs [h1, h1', h2', i1, j1]
    simp at hl
    omega

theorem cutSuffixL_fn (s : Str) (c : UInt8) (hl : List.length s < 1000000) : Ctr Tryz.prog 49 [.d (.str s), .d (.str [c])] (.tup [.d (.str (cutEnd s c).1), .d (.bool (cutEnd s c).2)]) := by
  refine fn_of_vwpN (rv := .tmp 4) (rs := [.tmp 5]) (r := .d (.str (cutEnd s c).1)) (ys := [.d (.bool (cutEnd s c).2)]) (fun _ => false) (by kernel_rfl) Tryz.func49 (by kernel_rfl) rfl rfl (by simp) (Nat.le_of_ble_eq_true rfl) (by kernel_rfl) rfl rfl ?_
  have hS := hasSuffix_fn s c hl
  by_cases h : s.getLast? = some c
  · have h0 : s ≠ [] := by rintro rfl; simp at h
    have h1 : 1 ≤ List.length s := List.length_pos_iff.2 h0
    have i1 : (0 : Int) ≤ (List.length s : Int) - 1 := by omega
    have j1 : ((List.length s : Int) - 1).toNat = List.length s - 1 := by omega
    have e : cutEnd s c = (s.take (List.length s - 1), true) := by rw [cutEnd, if_pos h, List.dropLast_eq_take]
    rw [e]
    rw [decide_eq_true h] at hS
    have h1' : (1 : Int) ≤ List.length s := by omega
    simp -implicitDefEqProofs
    refine callK hS ?_
    simp -implicitDefEqProofs [i1, j1, h1']
    omega
  · have e : cutEnd s c = (s, false) := by rw [cutEnd, if_neg h]
    rw [e]
    rw [decide_eq_false h] at hS
    simp -implicitDefEqProofs
    refine callK hS ?_
    simp -implicitDefEqProofs

theorem cutSuffix_fn (s : Str) (c : UInt8) (hl : List.length s < 1000000) : Ctr Tryz.prog 21 [.d (.str s), .d (.str [c])] (.tup [.d (.str (cutEnd s c).1), .d (.bool (cutEnd s c).2)]) := by
  refine fn_of_vwpN (rv := .tmp 4) (rs := [.tmp 5]) (r := .d (.str (cutEnd s c).1)) (ys := [.d (.bool (cutEnd s c).2)]) (fun _ => false) (by kernel_rfl) Tryz.func21 (by kernel_rfl) rfl rfl (by simp) (Nat.le_of_ble_eq_true rfl) (by kernel_rfl) rfl rfl ?_
  simp -implicitDefEqProofs
  refine callK (cutSuffixL_fn s c hl) ?_
  simp -implicitDefEqProofs

theorem pathV_eq (n v : Str) : pathV n v = if (cutEnd v 93).2 = true ∧ cleanB (cutEnd v 93).1 = true then (n, (cutEnd v 93).1, 0) else ([], [], 4) := by
  unfold pathV cutEnd
  by_cases h : v.getLast? = some 93 <;> simp [h]

theorem path_fn (s : Str) (hs : List.length s < 1000000) : Ctr Tryz.prog 7 [.d (.str s)] (.tup [.d (.str (pathP s).1), .d (.str (pathP s).2.1), .d (.int .i64 (pathP s).2.2)]) := by
  refine fn_of_vwpN (rv := .tmp 2) (rs := [.tmp 3, .tmp 4]) (r := .d (.str (pathP s).1)) (ys := [.d (.str (pathP s).2.1), .d (.int .i64 (pathP s).2.2)]) (fun _ => false) (by kernel_rfl) Tryz.func7 (by kernel_rfl) rfl rfl (by simp) (Nat.le_of_ble_eq_true rfl) (by kernel_rfl) rfl rfl ?_
  obtain ⟨R, hR⟩ : ∃ R, pathP s = R := ⟨_, rfl⟩
  rw [hR]
  have hcut := cut_fn s 91 (by omega)
  have hl1 : List.length (cutB s 91).1 < 1000000 ∧ List.length (cutB s 91).2.1 < 1000000 := by
    unfold cutB
    split
    · simp; omega
    · simp; omega
  unfold pathP at hR
  generalize cutB s 91 = c at *
  obtain ⟨n, v, b⟩ := c
  simp only at hcut hl1 hR
  have hce := cutSuffix_fn v 93 hl1.2
  have hle : List.length (cutEnd v 93).1 < 1000000 := by
    unfold cutEnd
    split
    · simp; omega
    · exact hl1.2
  by_cases h1 : nameB n = true
  case neg =>
    have h1' : nameB n = false := by simpa using h1
    rw [if_pos h1'] at hR
    subst hR
    simp -implicitDefEqProofs
    refine callK hcut ?_
    simp -implicitDefEqProofs
    refine callK (fname_fn n hl1.1) ?_
    simp -implicitDefEqProofs [h1']
  rw [if_neg (by simp [h1])] at hR
  cases b with
  | false =>
    rw [if_pos rfl] at hR
    subst hR
    simp -implicitDefEqProofs
    refine callK hcut ?_
    simp -implicitDefEqProofs
    refine callK (fname_fn n hl1.1) ?_
    simp -implicitDefEqProofs [h1]
  | true =>
    rw [if_neg (by simp), pathV_eq] at hR
    have hfc := fclean_fn (cutEnd v 93).1 hle
    rw [cleanF_eq] at hfc
    generalize cutEnd v 93 = e at *
    obtain ⟨w, d⟩ := e
    simp only at hR hce hle hfc
    cases d with
    | false =>
      rw [if_neg (by simp)] at hR
      subst hR
      simp -implicitDefEqProofs
      refine callK hcut ?_
      simp -implicitDefEqProofs
      refine callK (fname_fn n hl1.1) ?_
      simp -implicitDefEqProofs [h1]
      refine callK hce ?_
      simp -implicitDefEqProofs
    | true =>
      by_cases h2 : cleanB w = true
      · rw [if_pos (by simp [h2])] at hR
        rw [h2] at hfc
        subst hR
        simp -implicitDefEqProofs
        refine callK hcut ?_
        simp -implicitDefEqProofs
        refine callK (fname_fn n hl1.1) ?_
        simp -implicitDefEqProofs [h1]
        refine callK hce ?_
        simp -implicitDefEqProofs
        refine callK hfc ?_
        simp -implicitDefEqProofs
      · have h2' : cleanB w = false := by simpa using h2
        rw [if_neg (by simp [h2'])] at hR
        rw [h2'] at hfc
        subst hR
        simp -implicitDefEqProofs
        refine callK hcut ?_
        simp -implicitDefEqProofs
        refine callK (fname_fn n hl1.1) ?_
        simp -implicitDefEqProofs [h1]
        refine callK hce ?_
        simp -implicitDefEqProofs
        refine callK hfc ?_
        simp -implicitDefEqProofs

end Go.Proofs.Tz

/- Patch operations: Check, in both. -/
set_option maxRecDepth 100000
set_option maxHeartbeats 4000000
set_option linter.unusedVariables false
set_option linter.unusedSimpArgs false
namespace Go.Proofs.Tz
open Go.Vw Go.RowKit Go.Proofs

theorem chkW_drop {l : List Str} {k : Nat} (h : k < l.length) : chkW (l.take k) (l.drop k) = if cleanB l[k] = false then 8 else if l[k] ∈ l.take k then 7 else chkW (l.take (k + 1)) (l.drop (k + 1)) := by
  rw [drop_c h, chkW, take_s h]

theorem pvalues_fn (l : List Str) (hl : l.length < 1000000) (hv : ∀ v ∈ l, List.length v < 1000000) : Ctr Tryz.prog 43 [.d (strs l)] (.d (.int .i64 (valsP l))) := by
  refine fn_of_vwp (fun _ => false) (by kernel_rfl) Tryz.func43 (by kernel_rfl) rfl rfl (Nat.le_of_ble_eq_true rfl) (by kernel_rfl) rfl rfl ?_
  obtain ⟨R, hR⟩ : ∃ R, valsP l = R := ⟨_, rfl⟩
  rw [hR]
  unfold valsP at hR
  by_cases h16 : 16 < l.length
  · have h16' : (16 : Int) < l.length := by omega
    rw [if_pos h16] at hR
    subst hR
    simp -implicitDefEqProofs [strs, h16']
  have h16' : ¬ (16 : Int) < l.length := by omega
  rw [if_neg h16] at hR
  simp -implicitDefEqProofs [strs, h16']
  refine loopN l.length (fun k τ => τ 0 = .d (.sl (l.map .str)) ∧ τ 8 = .d (.sl (l.map .str)) ∧ τ 9 = .d (.int .i64 l.length) ∧ τ 10 = .d (.int .i64 k) ∧ R = chkW (l.take k) (l.drop k)) (by simp [hR]) ?_
  clear hR
  rintro k τ hk ⟨h0, h8, h9, h10, hR⟩
  by_cases hlt : k < l.length
  · have hlt' : (k : Int) < l.length := by omega
    rw [chkW_drop hlt] at hR
    have hc := contains_fn (l.take k) l[k] (by rw [List.length_take]; omega)
    have hxl := hv l[k] (List.getElem_mem hlt)
    have hfc := fclean_fn l[k] hxl
    rw [cleanF_eq] at hfc
    simp only [strs, List.map_take] at hc
    generalize hx : l[k] = x at *
    by_cases hcl : cleanB x = true
    · rw [if_neg (by simp [hcl])] at hR
      rw [hcl] at hfc
      by_cases hin : x ∈ l.take k
      · rw [if_pos hin] at hR
        rw [decide_eq_true hin] at hc
        subst hR
        simp -implicitDefEqProofs [h0, h8, h9, h10, hlt, hlt', hx]
        refine callK hfc ?_
        simp -implicitDefEqProofs [h0, h8, h9, h10, hlt, hlt', hx]
        repeat refine And.intro (by omega) ?_
        refine callK hc ?_
        simp -implicitDefEqProofs [h0, h8, h9, h10, hlt, hlt', hx]
      · rw [if_neg hin] at hR
        rw [decide_eq_false hin] at hc
        simp -implicitDefEqProofs [h0, h8, h9, h10, hlt, hlt', hx]
        refine callK hfc ?_
        simp -implicitDefEqProofs [h0, h8, h9, h10, hlt, hlt', hx]
        repeat refine And.intro (by omega) ?_
        refine callK hc ?_
        simp -implicitDefEqProofs [h0, h8, h9, h10, hlt, hlt', hx]
        repeat refine And.intro (by omega) ?_
        exact again hlt ⟨by simp [h0], by simp [h8], by simp [h9], by simp, hR⟩
    · have hcl' : cleanB x = false := by simpa using hcl
      rw [if_pos hcl'] at hR
      rw [hcl'] at hfc
      subst hR
      simp -implicitDefEqProofs [h0, h8, h9, h10, hlt, hlt', hx]
      refine callK hfc ?_
      simp -implicitDefEqProofs [h0, h8, h9, h10, hlt, hlt', hx]
  · rw [List.drop_of_length_le (by omega)] at hR
    have hlt' : ¬ (k : Int) < l.length := by omega
    subst hR
    simp -implicitDefEqProofs [h0, h8, h9, h10, hlt, hlt', chkW]

theorem fits_fn (x : POp) (v : Str) : Ctr Tryz.prog 42 [.d (popD x), .d (.str v)] (.d (.bool (fitsP x.1 v x.2.2))) := by
  obtain ⟨o, p, vs⟩ := x
  refine fn_of_vwp (fun _ => false) (by kernel_rfl) Tryz.func42 (by kernel_rfl) rfl rfl (Nat.le_of_ble_eq_true rfl) (by kernel_rfl) rfl rfl ?_
  by_cases c1 : o = oAdd
  · subst c1
    by_cases c2 : v = []
    · by_cases c3 : vs = []
      · simp -implicitDefEqProofs [popD, strs, c2, c3, fitsP]
      · have : (0 : Int) < vs.length := by have := List.length_pos_iff.2 c3; omega
        have h0 : 0 < vs.length := List.length_pos_iff.2 c3
        simp -implicitDefEqProofs [popD, strs, c2, c3, fitsP, this, h0]
    · simp -implicitDefEqProofs [popD, strs, c2, fitsP]
  by_cases c2 : o = oRem
  · subst c2
    have e1 : ¬ oRem = oAdd := by decide
    by_cases c3 : vs = []
    · simp -implicitDefEqProofs [popD, strs, c3, fitsP, e1]
    · simp -implicitDefEqProofs [popD, strs, c3, fitsP, e1]
  · by_cases c3 : v = []
    · simp -implicitDefEqProofs [popD, strs, c1, c2, c3, fitsP]
    · by_cases c4 : vs.length = 1
      · simp -implicitDefEqProofs [popD, strs, c1, c2, c3, c4, fitsP]
      · have c4' : ¬ (vs.length : Int) = 1 := by omega
        simp -implicitDefEqProofs [popD, strs, c1, c2, c3, c4, c4', fitsP]

theorem chkOps_drop {l : List POp} {k : Nat} (h : k < l.length) : chkOps (l.drop k) = if chkOp l[k] = 0 then chkOps (l.drop (k + 1)) else chkOp l[k] := by rw [drop_c h]; rfl

theorem opB_no {o : Str} (h : opB o = false) : ¬ o = oAdd ∧ ¬ o = oRem ∧ ¬ o = oRepl := by
  simp only [opB, Bool.or_eq_false_iff, decide_eq_false_iff_not] at h
  exact ⟨h.1.1, h.1.2, h.2⟩

theorem pcheck_fn (l : List POp) (hl : FitP l) : Ctr Tryz.prog 18 [.d (pops l)] (.d (.int .i64 (checkP l))) := by
  refine fn_of_vwp (fun _ => false) (by kernel_rfl) Tryz.func18 (by kernel_rfl) rfl rfl (Nat.le_of_ble_eq_true rfl) (by kernel_rfl) rfl rfl ?_
  obtain ⟨R, hR⟩ : ∃ R, checkP l = R := ⟨_, rfl⟩
  rw [hR]
  unfold checkP at hR
  by_cases h32 : 32 < l.length
  · have h32' : (32 : Int) < l.length := by omega
    rw [if_pos h32] at hR
    subst hR
    simp -implicitDefEqProofs [pops, h32']
  have h32' : ¬ (32 : Int) < l.length := by omega
  rw [if_neg h32] at hR
  simp -implicitDefEqProofs [pops, h32']
  refine loopN l.length (fun k τ => τ 12 = .d (.sl (l.map popD)) ∧ τ 13 = .d (.int .i64 l.length) ∧ τ 14 = .d (.int .i64 k) ∧ R = chkOps (l.drop k)) (by simp [hR]) ?_
  clear hR
  rintro k τ hk ⟨h12, h13, h14, hR⟩
  by_cases hlt : k < l.length
  · have hlt' : (k : Int) < l.length := by omega
    rw [chkOps_drop hlt] at hR
    obtain ⟨f1, f2, f3, f4⟩ := hl.2 l[k] (List.getElem_mem hlt)
    generalize hx : l[k] = x at *
    obtain ⟨o, p, vs⟩ := x
    simp only at f1 f2 f3 f4
    have hpath := path_fn p f2
    have hfit := fits_fn (o, p, vs) (pathP p).2.1
    have hval := pvalues_fn vs f3 f4
    simp only [popD, strs] at hfit hval
    have hc : chkOp (o, p, vs) = if opB o = false then 2 else if (pathP p).2.2 ≠ 0 then (pathP p).2.2 else if fitsP o (pathP p).2.1 vs = false then 4 else valsP vs := rfl
    generalize chkOp (o, p, vs) = C at *
    generalize pathP p = P at *
    generalize valsP vs = V at *
    by_cases h1 : opB o = true
    case neg =>
      have h1' : opB o = false := by simpa using h1
      obtain ⟨a1, a2, a3⟩ := opB_no h1'
      rw [if_pos h1'] at hc
      subst hc
      rw [if_neg (by decide)] at hR
      subst hR
      simp -implicitDefEqProofs [h12, h13, h14, hlt, hlt', hx, popD, strs, a1, a2, a3]
    rw [if_neg (by simp [h1])] at hc
    have walk : ∀ (K : Prop), K → K := fun _ h => h
    by_cases h2 : P.2.2 = 0
    case neg =>
      rw [if_pos h2] at hc
      subst hc
      rw [if_neg h2] at hR
      subst hR
      rcases opB_cases h1 with rfl | rfl | rfl
      all_goals
        simp -implicitDefEqProofs [h12, h13, h14, hlt, hlt', hx, popD, strs]
        refine callK hpath ?_
        simp -implicitDefEqProofs [h12, h13, h14, hlt, hlt', h2]
    rw [if_neg (by simp [h2])] at hc
    by_cases h3 : fitsP o P.2.1 vs = true
    case neg =>
      have h3' : fitsP o P.2.1 vs = false := by simpa using h3
      rw [if_pos h3'] at hc
      rw [h3'] at hfit
      subst hc
      rw [if_neg (by decide)] at hR
      subst hR
      rcases opB_cases h1 with rfl | rfl | rfl
      all_goals
        simp -implicitDefEqProofs [h12, h13, h14, hlt, hlt', hx, popD, strs]
        refine callK hpath ?_
        simp -implicitDefEqProofs [h12, h13, h14, hlt, hlt', h2]
        refine callK hfit ?_
        simp -implicitDefEqProofs [h12, h13, h14, hlt, hlt', h2]
    rw [if_neg (by simp [h3])] at hc
    rw [h3] at hfit
    subst hc
    by_cases h4 : C = 0
    · rw [if_pos h4] at hR
      rcases opB_cases h1 with rfl | rfl | rfl
      all_goals
        simp -implicitDefEqProofs [h12, h13, h14, hlt, hlt', hx, popD, strs]
        refine callK hpath ?_
        simp -implicitDefEqProofs [h12, h13, h14, hlt, hlt', h2]
        refine callK hfit ?_
        simp -implicitDefEqProofs [h12, h13, h14, hlt, hlt', h2]
        refine callK hval ?_
        simp -implicitDefEqProofs [h12, h13, h14, hlt, hlt', h4]
        repeat refine And.intro (by omega) ?_
        exact again hlt ⟨by simp [h12], by simp [h13], by simp, hR⟩
    · rw [if_neg h4] at hR
      subst hR
      rcases opB_cases h1 with rfl | rfl | rfl
      all_goals
        simp -implicitDefEqProofs [h12, h13, h14, hlt, hlt', hx, popD, strs]
        refine callK hpath ?_
        simp -implicitDefEqProofs [h12, h13, h14, hlt, hlt', h2]
        refine callK hfit ?_
        simp -implicitDefEqProofs [h12, h13, h14, hlt, hlt', h2]
        refine callK hval ?_
        simp -implicitDefEqProofs [h12, h13, h14, hlt, hlt', h4]
  · rw [List.drop_of_length_le (by omega)] at hR
    have hlt' : ¬ (k : Int) < l.length := by omega
    subst hR
    simp -implicitDefEqProofs [h12, h13, h14, hlt, hlt', chkOps]
end Go.Proofs.Tz

/- Patch operations: the reference's Check; lists of values. -/
set_option maxRecDepth 100000
set_option maxHeartbeats 4000000
set_option linter.unusedVariables false
set_option linter.unusedSimpArgs false
namespace Go.Proofs.Tz
open Go.Vw Go.RowKit Go.Proofs

/-! ### lists of values -/
def missD (old vs : List Str) (k : Nat) : List D := (missL old (vs.take k)).map .str
theorem missD_zero (old vs : List Str) : missD old vs 0 = [] := rfl
theorem missD_succ (old : List Str) {vs : List Str} {k : Nat} (h : k < vs.length) : missD old vs (k + 1) = missD old vs k ++ if vs[k] ∈ old then [] else [.str vs[k]] := by
  rw [missD, missD, take_s h, missL, List.filter_append, List.map_append]
  congr 1
  by_cases hn : vs[k] ∈ old <;> simp [hn]
theorem missD_len (old vs : List Str) (k : Nat) : (missD old vs k).length ≤ k := by
  rw [missD, List.length_map]
  exact Nat.le_trans (List.length_filter_le _ _) (by rw [List.length_take]; omega)
theorem missD_all (old vs : List Str) {k : Nat} (h : vs.length ≤ k) : missD old vs k = (missL old vs).map .str := by rw [missD, List.take_of_length_le h]

theorem missing_fn (old vs : List Str) (ho : old.length < 1000000) (hv : vs.length < 1000000) : Ctr Tryz.prog 60 [.d (strs old), .d (strs vs)] (.d (strs (missL old vs))) := by
  refine fn_of_vwp (fun _ => false) (by kernel_rfl) Tryz.func60 (by kernel_rfl) rfl rfl (Nat.le_of_ble_eq_true rfl) (by kernel_rfl) rfl rfl ?_
  simp -implicitDefEqProofs [strs]
  refine loopN vs.length (fun k τ => τ 0 = .d (.sl (old.map .str)) ∧ τ 8 = .d (.sl (vs.map .str)) ∧ τ 9 = .d (.int .i64 vs.length) ∧ τ 10 = .d (.int .i64 k) ∧ τ 5 = .own false 9 (missD old vs k)) (by simp [missD_zero]) ?_
  rintro k τ hk ⟨h0, h8, h9, h10, h5⟩
  by_cases hlt : k < vs.length
  · have hlt' : (k : Int) < vs.length := by omega
    have e1 := missD_succ old hlt
    have e2 := missD_len old vs k
    have hc := contains_fn old vs[k] ho
    simp only [strs] at hc
    generalize hx : vs[k] = x at *
    simp -implicitDefEqProofs [h0, h8, h9, h10, h5, hlt, hlt', hx]
    refine callK hc ?_
    by_cases hin : x ∈ old
    · rw [if_pos hin, List.append_nil] at e1
      simp -implicitDefEqProofs [h0, h8, h9, h10, h5, hlt, hlt', hx, hin]
      repeat refine And.intro (by omega) ?_
      exact again hlt ⟨by simp [h0], by simp [h8], by simp [h9], by simp, by simp [h5, e1]⟩
    · rw [if_neg hin] at e1
      simp -implicitDefEqProofs [h0, h8, h9, h10, h5, hlt, hlt', hx, hin]
      repeat refine And.intro (by omega) ?_
      exact again hlt ⟨by simp [h0], by simp [h8], by simp [h9], by simp, by simp [e1]⟩
  · rw [missD_all old vs (by omega)] at h5
    have hlt' : ¬ (k : Int) < vs.length := by omega
    simp -implicitDefEqProofs [h0, h8, h9, h10, h5, hlt, hlt', strs]

theorem deleteS_fn (g : FuncId) (cs : List D) (hcs : (cs.all fun c => !c.isAgg) = true) (p : Str → Bool) (l : List Str) (hl : l.length < 1000000) (hp : ∀ a ∈ l, Ctr Tryz.prog g ([.d (.str a)] ++ cs.map .d) (.d (.bool (p a)))) :
    Ctr Tryz.prog 78 [.own true 9 (l.map .str), .d (.clo g cs)] (.own true 9 ((l.filter fun x => !p x).map .str)) := by
  refine fn_of_vwp (fun i => i == 2000010) (by kernel_rfl) Tryz.func78 (by kernel_rfl) rfl rfl (Nat.le_of_ble_eq_true rfl) (by kernel_rfl) rfl rfl ?_
  simp -implicitDefEqProofs
  refine lendK (indexS_fn g cs hcs p l hl hp) rfl ?_
  by_cases hn : idxG p 0 l = -1
  · simp -implicitDefEqProofs [hn, idxG_neg p l 0 hn]
  · obtain ⟨i, h1, h2, h3, h4⟩ := idxG_pos p l 0 hn
    simp only [Nat.zero_add] at h1
    have e1 : ¬ ((i : Int) = -1) := by omega
    simp -implicitDefEqProofs [h1, e1]
    refine ⟨by omega, ?_⟩
    refine loopK (fun n τ => ∃ (j q : Nat) (m : List Str), n = l.length - j ∧ j ≤ l.length ∧ τ 0 = .own true 9 (m.map .str) ∧ τ 1 = .d (.clo g cs) ∧ τ 5 = .d (.int .i64 q) ∧ τ 6 = .d (.int .i64 j) ∧ m.length = l.length ∧ q < j ∧ m.take q = (l.take j).filter (fun x => !p x) ∧ m.drop j = l.drop j)
      (l.length - (i + 1)) ⟨i + 1, i, l, rfl, by omega, by simp, by simp, by simp, by simp, rfl, by omega, h4.symm, rfl⟩ ?_
    rintro n τ ⟨j, q, m, rfl, hj, g0, g1, g5, g6, hm, hq, ht, hd⟩
    by_cases hlt : j < l.length
    · have hmj : m[j]'(by omega) = l[j] := by
        have := congrArg (fun x : List Str => x[0]?) hd
        simpa [hlt, hm] using this
      have hf := hp _ (List.getElem_mem hlt)
      simp only [List.cons_append, List.nil_append] at hf
      have hlt' : (j : Int) < l.length := by omega
      simp -implicitDefEqProofs [g0, g1, g5, g6, hm, hlt', hlt, hmj]
      refine ⟨by simpa using hcs, callK hf ?_⟩
      by_cases he : p l[j] = true
      · simp -implicitDefEqProofs [g0, g1, g5, g6, hm, hlt', hlt, hmj, he]
        refine ⟨by omega, _, ?_, j + 1, rfl, by omega, q, m, rfl, rfl, by omega, hm, by omega, ?_, ?_⟩
        · omega
        · rw [take_s hlt, List.filter_append, ht]; simp [he]
        · rw [← List.drop_drop, hd, List.drop_drop]
      · have hq2 : q < m.length := by omega
        have hqq : m[q]? = some m[q] := List.getElem?_eq_getElem hq2
        simp -implicitDefEqProofs [g0, g1, g5, g6, hm, hlt', hlt, hmj, he, hqq]
        refine ⟨by omega, by omega, by omega, _, ?_, j + 1, rfl, by omega, q + 1, m.set q l[j], ?_, by simp, by simp, by simpa using hm, by omega, ?_, ?_⟩
        · omega
        · rw [List.map_set]
        · rw [List.take_set, take_s hq2, List.set_append_right _ _ (by simp; omega)]
          simp only [List.length_take, Nat.min_eq_left (Nat.le_of_lt hq2), Nat.sub_self, List.set_cons_zero]
          rw [take_s hlt, List.filter_append, ht]; simp [he]
        · rw [List.drop_set_of_lt (by omega), ← List.drop_drop, hd, List.drop_drop]
    · simp -implicitDefEqProofs [g0, g1, g5, g6, hm, hlt]
      have hjl : j = l.length := by omega
      subst hjl
      refine ⟨by omega, by omega, ?_⟩
      rw [List.take_append_of_le_length (by simp; omega), List.take_take, Nat.min_self, ← List.map_take, ht, List.take_length]

theorem withoutQ_fn (s v : Str) : Ctr Tryz.prog 79 [.d (.str s), .d (.ref (.str v))] (.d (.bool (decide (s = v)))) := by
  refine fn_of_vwp (fun _ => false) (by kernel_rfl) Tryz.func79 (by kernel_rfl) rfl rfl (Nat.le_of_ble_eq_true rfl) (by kernel_rfl) rfl rfl ?_
  simp -implicitDefEqProofs
theorem without2_fn (old : List Str) (v : Str) (ho : old.length < 1000000) : Ctr Tryz.prog 61 [.d (strs old), .d (.str v)] (.own true 9 ((remL old v).map .str)) := by
  refine fn_of_vwp (fun i => i == 6 || i == 8) (by kernel_rfl) Tryz.func61 (by kernel_rfl) rfl rfl (Nat.le_of_ble_eq_true rfl) (by kernel_rfl) rfl rfl ?_
  have hd := deleteS_fn 79 [.ref (.str v)] rfl (fun x => decide (x = v)) old ho (fun a _ => withoutQ_fn a v)
  simp -implicitDefEqProofs
  refine callK (clone_fn old ho) ?_
  simp -implicitDefEqProofs
  refine callK hd ?_
  simp -implicitDefEqProofs [remL]

end Go.Proofs.Tz

/- Patch operations: repeats, differences, compaction: plain laws. -/
set_option linter.unusedVariables false
set_option linter.unusedSimpArgs false
namespace Go.Proofs.Tz
open Go.Vw Go.Lib

theorem names_le {m0 m1 : List Att} (h : ∀ n v, HasL m0 n v → ∃ w, HasL m1 n w) : (sortedL m0).length ≤ (sortedL m1).length := by
  have h0 := nf_sorted m0
  have := nodup_sub_len (a := (sortedL m0).map (·.1)) (b := (sortedL m1).map (·.1)) h0.names.nodup fun n hn => by
    obtain ⟨x, hx, rfl⟩ := List.mem_map.1 hn
    obtain ⟨v, hv⟩ := List.exists_mem_of_ne_nil _ (h0.ne x hx)
    obtain ⟨w, hw⟩ := h _ _ ((sorted_has m0 x.1 v).1 ⟨x, hx, rfl, hv⟩)
    obtain ⟨y, hy, e, _⟩ := (sorted_has m1 x.1 w).2 hw
    exact List.mem_map.2 ⟨y, hy, e⟩
  simpa using this
theorem set_len (l : List Att) (n : Str) (w : List Str) : (setL (sortedL l) n w).length ≤ (sortedL l).length + 1 := by
  refine Nat.le_trans (sorted_len _) ?_
  rw [List.length_append]
  exact Nat.add_le_add_right (List.length_filter_le _ _) 1
theorem miss_nil {old vs : List Str} (h : ∀ v ∈ vs, v ∈ old) : missL old vs = [] := by
  rw [missL, List.filter_eq_nil_iff]
  intro v hv
  simp [h v hv]
/-! ### the same again -/
theorem repeat_step {out r : List Att} {x : POp} (hx : OkOp x) (hc : x.1 ≠ oAdd → x.1 ≠ oRem → partP x = []) (h : stepP out x = (r, 0)) : stepP r x = (r, 0) := by
  obtain ⟨now, h1, h2, h3, rfl⟩ := step_ok h
  have hm : ∀ v, v ∈ getL (setL (sortedL out) (nameP x) now) (nameP x) ↔ v ∈ now := getL_set out (nameP x) now
  have hnd := now_nodup (SS_getL _ _).nodup hx.nod h1
  have hSS := (SS_getL (setL (sortedL out) (nameP x) now) (nameP x)).nodup
  have key : ∃ now2, nowP (getL (setL (sortedL out) (nameP x) now) (nameP x)) x.1 (partP x) x.2.2 = some now2 ∧ ∀ v, v ∈ now2 ↔ v ∈ now := by
    generalize getL (setL (sortedL out) (nameP x) now) (nameP x) = old2 at *
    generalize getL out (nameP x) = old at *
    unfold nowP at h1 ⊢
    by_cases c1 : x.1 = oAdd
    · rw [if_pos c1] at h1 ⊢
      simp only [Option.some.injEq] at h1
      refine ⟨_, rfl, fun v => ?_⟩
      rw [miss_nil, List.append_nil]
      · exact hm v
      · intro v hv
        rw [hm, ← h1, List.mem_append, mem_missL]
        by_cases ho : v ∈ old
        · exact .inl ho
        · exact .inr ⟨hv, ho⟩
    · rw [if_neg c1] at h1 ⊢
      by_cases c2 : x.1 = oRem
      · rw [if_pos c2] at h1 ⊢
        by_cases c3 : partP x = []
        · rw [if_pos c3] at h1 ⊢
          exact ⟨_, h1, fun v => Iff.rfl⟩
        · rw [if_neg c3] at h1 ⊢
          simp only [Option.some.injEq] at h1
          refine ⟨_, rfl, fun v => ?_⟩
          rw [mem_remL, hm, ← h1, mem_remL]
          exact ⟨fun h => h.1, fun h => ⟨h, h.2⟩⟩
      · rw [if_neg c2] at h1 ⊢
        have c3 := hc c1 c2
        rw [if_pos c3] at h1 ⊢
        exact ⟨_, h1, fun v => Iff.rfl⟩
  obtain ⟨now2, k1, k2⟩ := key
  have kn := now_nodup hSS hx.nod k1
  have hlen := nodup_len kn hnd k2
  have hset : setL (sortedL (setL (sortedL out) (nameP x) now)) (nameP x) now2 = setL (sortedL out) (nameP x) now := by
    refine (setL_norm _ _ _).symm.trans (Eq.trans (sorted_ext fun n v => ?_) (setL_norm _ _ _))
    rw [has_set, has_set, k2]
    constructor
    · rintro (⟨a, ⟨_, b⟩ | ⟨b, c⟩⟩ | ⟨a, b⟩)
      · exact .inl ⟨a, b⟩
      · exact absurd b a
      · exact .inr ⟨a, b⟩
    · rintro (⟨a, b⟩ | ⟨a, b⟩)
      · exact .inl ⟨a, .inl ⟨a, b⟩⟩
      · exact .inr ⟨a, b⟩
  rw [step_of k1 (by omega) (by rw [hset]; exact h3), hset]

theorem goP_one (out : List Att) (x : POp) : goP out [x] = stepP out x := by
  rw [goP]
  split
  · rename_i h
    rw [goP, ← h]
  · rfl
theorem repeat_ok {a : List Att} {l : List POp} {o : POp} (hl : l.length ≤ 20) (hc : o.1 ≠ oAdd → o.1 ≠ oRem → partP o = []) : applyP a (l ++ [o] ++ [o]) = applyP a (l ++ [o]) := by
  unfold applyP
  split
  · have e : checkP (l ++ [o] ++ [o]) = checkP (l ++ [o]) := by
      rw [checkP_app (by simp; omega)]
      split
      · rename_i h0
        rw [h0, checkP_zero]
        exact ⟨by simp, fun y hy => by
          rw [List.mem_singleton.1 hy]
          exact ((checkP_zero _).1 h0).2 o (by simp)⟩
      · rfl
    rw [e]
    split
    · rename_i h0
      have hok := ((checkP_zero _).1 h0).2
      rw [goP_app (l ++ [o]) [o]]
      by_cases hg : (goP (sortedL a) (l ++ [o])).2 = 0
      · rw [if_pos hg, goP_one]
        have h1 : (goP (sortedL a) l).2 = 0 := by
          by_cases h1 : (goP (sortedL a) l).2 = 0
          · exact h1
          · rw [goP_app, if_neg h1] at hg; exact hg
        have h2 : goP (sortedL a) (l ++ [o]) = stepP (goP (sortedL a) l).1 o := by rw [goP_app, if_pos h1, goP_one]
        have h3 : goP (sortedL a) (l ++ [o]) = ((goP (sortedL a) (l ++ [o])).1, 0) := by rw [← hg]
        generalize (goP (sortedL a) (l ++ [o])).1 = r at *
        rw [h3]
        exact repeat_step (hok o (by simp)) hc (h2.symm.trans h3)
      · rw [if_neg hg]
    · rfl
  · rfl

/-! ### differences -/
def diffA (b : List Att) (x : Att) : List POp := if getL b x.1 = [] then [(oRem, x.1, [])] else []
def diffB (a : List Att) (x : Att) : List POp := if getL a x.1 = [] then [(oAdd, x.1, x.2)] else if getL a x.1 = x.2 then [] else [(oRepl, x.1, x.2)]
def diffL (a b : List Att) : List POp := (sortedL a).flatMap (diffA b) ++ (sortedL b).flatMap (diffB a)
def diffP (a b : List Att) : List POp := if checkL a = 0 ∧ checkL b = 0 then diffL a b else []

/-! ### compaction -/
def wholeP (x : POp) : Bool := decide (partP x = []) && !decide (x.1 = oAdd)
def goneP (x : POp) : Bool := decide (x.1 = oAdd) || (decide (x.1 = oRepl) && decide (x.2.2 ≠ []))
def laterP (n : Str) (l : List POp) : Bool := l.any fun y => decide (nameP y = n) && wholeP y
def compL : List POp → List POp
  | [] => []
  | x :: l => if goneP x && laterP (nameP x) l then compL l else x :: compL l
def compP (l : List POp) : List POp := if checkP l = 0 then compL l else l

theorem comp_sub : ∀ (l : List POp), (compL l).Sublist l
  | [] => .slnil
  | x :: l => by
    rw [compL]
    split
    · exact (comp_sub l).cons x
    · exact (comp_sub l).cons_cons x
theorem comp_check {l : List POp} (h : checkP l = 0) : checkP (compL l) = 0 := by
  rw [checkP_zero] at h ⊢
  exact ⟨Nat.le_trans (comp_sub l).length_le h.1, fun x hx => h.2 x ((comp_sub l).subset hx)⟩
theorem getL_step_other {out : List Att} {x : POp} {now : List Str} {n : Str} (h : lower n ≠ nameP x) : getL (setL (sortedL out) (nameP x) now) n = getL out n :=
  getL_ext fun v => by rw [has_set]; simp [h]
theorem getL_step_same {s t : List Att} {x : POp} {now : List Str} {n : Str} (h : lower n = nameP x) : getL (setL (sortedL s) (nameP x) now) n = getL (setL (sortedL t) (nameP x) now) n :=
  getL_ext fun v => by rw [has_set, has_set]; simp [h]

theorem comp_go : ∀ (l : List POp), (∀ x ∈ l, OkOp x) → ∀ (s t r : List Att), sortedL s = s → sortedL t = t → t.length + l.length ≤ 32 → (∀ n, (getL t n).length ≤ 16) →
    (∀ n, laterP (lower n) l = false → getL s n = getL t n) → goP s l = (r, 0) → goP t (compL l) = (r, 0)
  | [], _, s, t, r, hs, ht, _, _, hsim, h => by
    simp only [goP, Prod.mk.injEq, and_true] at h
    subst h
    simp only [compL, goP, Prod.mk.injEq, and_true]
    rw [← hs, ← ht]
    refine sorted_ext fun n v => ?_
    by_cases hn : lower n = n
    · have := hsim n rfl
      rw [← hn, ← mem_getL, ← mem_getL, this]
    · constructor
      · rintro ⟨x, _, e, _⟩; exact absurd (by rw [← e, lower_lower]) hn
      · rintro ⟨x, _, e, _⟩; exact absurd (by rw [← e, lower_lower]) hn
  | x :: l, hok, s, t, r, hs, ht, hlen, h16, hsim, h => by
    have hx := hok x (by simp)
    have hok' : ∀ y ∈ l, OkOp y := fun y hy => hok y (by simp [hy])
    rw [goP] at h
    have hc : (stepP s x).2 = 0 := by
      by_cases hc : (stepP s x).2 = 0
      · exact hc
      · rw [if_neg hc] at h; rw [h]
    rw [if_pos hc] at h
    obtain ⟨now, k1, k2, k3, k4⟩ := step_ok (show stepP s x = ((stepP s x).1, 0) by rw [← hc])
    have hs' : sortedL (stepP s x).1 = (stepP s x).1 := by rw [k4]; exact setL_norm _ _ _
    simp only [List.length_cons] at hlen
    rw [compL]
    split
    · rename_i hg
      simp only [Bool.and_eq_true] at hg
      refine comp_go l hok' (stepP s x).1 t r hs' ht (by omega) h16 (fun n hn => ?_) h
      have hne : lower n ≠ nameP x := fun e => by rw [e, hg.2] at hn; cases hn
      rw [k4, getL_step_other hne]
      refine hsim n ?_
      simp only [laterP, List.any_cons] at hn ⊢
      rw [hn, Bool.or_false]
      simp
      intro e
      exact absurd e.symm hne
    · rename_i hg
      simp only [Bool.and_eq_true, not_and] at hg
      -- what the step on t computes
      have key : ∃ now2, nowP (getL t (nameP x)) x.1 (partP x) x.2.2 = some now2 ∧ now2.length ≤ 16 ∧ (setL (sortedL t) (nameP x) now2).length + l.length ≤ 32 ∧ (laterP (nameP x) l = false → now2 = now) := by
        by_cases hlat : laterP (nameP x) l = true
        · have hng : goneP x = false := by
            cases hgx : goneP x with
            | false => rfl
            | true => exact absurd hlat (by simpa using hg hgx)
          simp only [goneP, Bool.or_eq_false_iff, decide_eq_false_iff_not, Bool.and_eq_false_iff] at hng
          obtain ⟨c1, c2⟩ := hng
          have hop := hx.op
          simp only [opB, Bool.or_eq_true, decide_eq_true_eq] at hop
          have hshort : ∀ now2 : List Str, (∀ v ∈ now2, v ∈ getL t (nameP x)) → (setL (sortedL t) (nameP x) now2).length + l.length ≤ 32 := fun now2 hsub => by
            have : (setL (sortedL t) (nameP x) now2).length ≤ (sortedL t).length := by
              rw [← setL_norm]
              refine names_le fun n v hv => ?_
              rw [has_set] at hv
              rcases hv with ⟨_, hv⟩ | ⟨rfl, hv⟩
              · exact ⟨v, hv⟩
              · have := (mem_getL _ _ _).1 (hsub v hv)
                rw [nameP_low] at this
                exact ⟨v, this⟩
            rw [ht] at this
            rw [ht]
            omega
          by_cases c3 : x.1 = oRem
          · by_cases c4 : partP x = []
            · exact ⟨[], by rw [nowP, if_neg c1, if_pos c3, if_pos c4], by simp, hshort [] (by simp), fun h => by rw [hlat] at h; cases h⟩
            · refine ⟨remL (getL t (nameP x)) (partP x), by rw [nowP, if_neg c1, if_pos c3, if_neg c4], ?_, hshort _ (fun v hv => (mem_remL.1 hv).1), fun h => by rw [hlat] at h; cases h⟩
              exact Nat.le_trans (List.length_filter_le _ _) (h16 _)
          · have c5 : x.1 = oRepl := by
              rcases hop with (h | h) | h
              · exact absurd h c1
              · exact absurd h c3
              · exact h
            have c6 : x.2.2 = [] := by
              rcases c2 with h | h
              · exact absurd c5 h
              · simpa using h
            have c7 : partP x = [] := by
              have hf := hx.fit
              rw [fitsP, if_neg c1, if_neg c3, c6] at hf
              simpa using hf
            exact ⟨[], by rw [nowP, if_neg c1, if_neg c3, if_pos c7, c6], by simp, hshort [] (by simp), fun h => by rw [hlat] at h; cases h⟩
        · have hlat' : laterP (nameP x) l = false := by simpa using hlat
          refine ⟨now, ?_, k2, ?_, fun _ => rfl⟩
          · by_cases hw : wholeP x = true
            · simp only [wholeP, Bool.and_eq_true, decide_eq_true_eq, Bool.not_eq_true', decide_eq_false_iff_not] at hw
              rw [nowP, if_neg hw.2] at k1 ⊢
              split at k1
              · rename_i h1; rw [if_pos h1]; rw [if_pos hw.1] at k1 ⊢; exact k1
              · rename_i h1; rw [if_neg h1]; rw [if_pos hw.1] at k1 ⊢; exact k1
            · have hw' : wholeP x = false := by simpa using hw
              have := hsim (nameP x) (by
                rw [nameP_low]
                simp only [laterP, List.any_cons] at hlat' ⊢
                rw [hlat', hw']; simp)
              rw [← this]; exact k1
          · have := set_len t (nameP x) now
            rw [ht] at this ⊢
            omega
      obtain ⟨now2, j1, j2, j3, j4⟩ := key
      have hst := step_of j1 j2 (by omega)
      rw [goP, hst]
      simp only [if_true]
      refine comp_go l hok' (stepP s x).1 _ r hs' (setL_norm _ _ _) j3 (fun n => ?_) (fun n hn => ?_) h
      · by_cases hn : lower n = nameP x
        · have e : getL (setL (sortedL t) (nameP x) now2) n = getL (setL (sortedL t) (nameP x) now2) (nameP x) := getL_ext fun v => by rw [hn, nameP_low]
          rw [e, getL_set_len t (nameP x) (now_nodup (SS_getL _ _).nodup hx.nod j1)]
          exact j2
        · rw [getL_step_other hn]; exact h16 n
      · rw [k4]
        by_cases hne : lower n = nameP x
        · rw [hne] at hn
          rw [j4 hn]
          exact getL_step_same hne
        · rw [getL_step_other hne, getL_step_other hne]
          refine hsim n ?_
          simp only [laterP, List.any_cons] at hn ⊢
          rw [hn, Bool.or_false]
          simp
          intro e
          exact absurd e.symm hne

theorem comp_apply {a b : List Att} {l : List POp} (hl : a.length + l.length ≤ 32) (h : applyP a l = (b, 0)) : applyP a (compP l) = (b, 0) := by
  have h0 : (applyP a l).2 = 0 := by rw [h]
  obtain ⟨h1, h2, h3⟩ := applyP_ok h0
  rw [h] at h3
  have hsl := sorted_len a
  have := comp_go l ((checkP_zero l).1 h2).2 (sortedL a) (sortedL a) b (sorted_idem a) (sorted_idem a) (by omega) (fun n => by
    have : getL (sortedL a) n = getL a n := getL_ext fun v => hasL_sorted a (lower n) v
    rw [this]; exact h1.get n) (fun _ _ => rfl) h3
  rw [compP, if_pos h2, applyP, if_pos ((check_iff a).2 h1), if_pos (comp_check h2)]
  exact this
end Go.Proofs.Tz

/- Patch operations: one operation, in both. -/
set_option maxRecDepth 100000
set_option maxHeartbeats 4000000
set_option linter.unusedVariables false
set_option linter.unusedSimpArgs false
namespace Go.Proofs.Tz
open Go.Vw Go.RowKit Go.Proofs

theorem total_len {a : List Att} {m : Nat} (h : ∀ x ∈ a, x.2.length ≤ m) : total a ≤ a.length * m := by
  induction a with
  | nil => simp [total]
  | cons x a ih =>
    have h1 := h x (by simp)
    have h2 := ih (fun y hy => h y (by simp [hy]))
    simp only [total, List.map_cons, List.sum_cons, List.length_cons] at h2 ⊢
    rw [Nat.add_mul, Nat.one_mul]
    omega
theorem name_len {n : Str} (h : nameB n = true) : List.length n ≤ 64 := by
  simp only [nameB, Bool.and_eq_true, decide_eq_true_eq] at h
  exact h.1.1.2
theorem clean_len {v : Str} (h : cleanB v = true) : List.length v ≤ 256 := by
  simp only [cleanB, Bool.and_eq_true, decide_eq_true_eq] at h
  exact h.1.1.1.2
theorem valid_fit {a : List Att} (h : Valid a) : Fit2 a ∧ total a ≤ 512 ∧ FitV a := by
  have ht := total_len (m := 16) (fun x hx => (h.each x hx).2.2.1)
  have : a.length * 16 ≤ 32 * 16 := Nat.mul_le_mul_right _ h.len
  have hl := h.len
  exact ⟨⟨⟨by omega, fun x hx => ⟨by have := name_len (h.each x hx).1; omega, by have := (h.each x hx).2.2.1; omega⟩⟩, by omega⟩, by omega, fun x hx v hv => by have := clean_len ((h.each x hx).2.2.2 v hv); omega⟩

theorem setQ2_fn (a : Att) (n : Str) : Ctr Tryz.prog 81 [.d (att a), .d (.ref (.str n))] (.d (.bool (decide (a.1 = n)))) := by
  refine fn_of_vwp (fun _ => false) (by kernel_rfl) Tryz.func81 (by kernel_rfl) rfl rfl (Nat.le_of_ble_eq_true rfl) (by kernel_rfl) rfl rfl ?_
  simp -implicitDefEqProofs [att, strs]

theorem total_filter (p : Att → Bool) : ∀ (l : List Att), total (l.filter p) ≤ total l
  | [] => by simp
  | x :: l => by
    have ih := total_filter p l
    rw [List.filter_cons]
    split
    · simp only [total, List.map_cons, List.sum_cons] at ih ⊢; omega
    · simp only [total, List.map_cons, List.sum_cons] at ih ⊢; omega
/-- What is small enough to be set. -/
theorem set_fit {a : List Att} {n : Str} {vs : List Str} (h : Valid a) (hn : List.length n < 1000000) (hv : vs.length ≤ 1000) (p : Att → Bool) : Fit2 ((sortedL a).filter p ++ [(n, vs)]) := by
  obtain ⟨h1, h2, _⟩ := valid_fit h.sorted
  have hs : ((sortedL a).filter p).Sublist (sortedL a) := List.filter_sublist
  have hl := hs.length_le
  have hlen := h.sorted.len
  have ht : total ((sortedL a).filter p) ≤ total (sortedL a) := total_filter p _
  refine ⟨⟨by simp; omega, fun x hx => ?_⟩, ?_⟩
  · rcases List.mem_append.1 hx with hx | hx
    · exact h1.1.2 x (hs.subset hx)
    · rw [List.mem_singleton.1 hx]; exact ⟨hn, by simp only; omega⟩
  · have : total ((sortedL a).filter p ++ [(n, vs)]) = total ((sortedL a).filter p) + vs.length := by simp [total]
    omega

theorem pset_fn (a : List Att) (n : Str) (vs : List Str) (h : Valid a) (hl : lower n = n) (hn : List.length n < 1000000) (hv : vs.length ≤ 1000) : Ctr Tryz.prog 63 [.d (atts a), .d (.str n), .d (strs vs)] (.d (atts (setL (sortedL a) n vs))) := by
  refine fn_of_vwp (fun i => i == 9) (by kernel_rfl) Tryz.func63 (by kernel_rfl) rfl rfl (Nat.le_of_ble_eq_true rfl) (by kernel_rfl) rfl rfl ?_
  obtain ⟨f1, f2, f3⟩ := valid_fit h
  obtain ⟨g1, g2, g3⟩ := valid_fit h.sorted
  have hlen := h.sorted.len
  have hS := sorted_fn a f1
  have hD := deleteA_fn 81 [.ref (.str n)] rfl (fun x => decide (x.1 = n)) (sortedL a) g1.1.1 (fun x _ => setQ2_fn x n)
  have hfit := set_fit (n := n) (vs := vs) h hn hv (fun x => !decide (x.1 = n))
  have hS2 := sorted_fn _ hfit
  have hset : setL (sortedL a) n vs = sortedL (((sortedL a).filter fun x => !decide (x.1 = n)) ++ [(n, vs)]) := by rw [setL, hl]
  have hfl : ((sortedL a).filter fun x => !decide (x.1 = n)).length ≤ 32 := Nat.le_trans (List.length_filter_le _ _) hlen
  rw [hset]
  generalize (sortedL a).filter (fun x => !decide (x.1 = n)) = fl at *
  simp only [atts, att, strs, List.map_append, List.map_cons, List.map_nil] at hS2
  simp -implicitDefEqProofs
  refine callK hS ?_
  simp -implicitDefEqProofs
  refine callK hD ?_
  simp -implicitDefEqProofs [strs]
  repeat refine And.intro (by omega) ?_
  refine callK hS2 ?_
  simp -implicitDefEqProofs [atts]

theorem path_len {s : Str} : List.length (pathP s).1 ≤ List.length s ∧ List.length (pathP s).2.1 ≤ List.length s := by
  have hc : List.length (cutB s 91).1 ≤ List.length s ∧ List.length (cutB s 91).2.1 ≤ List.length s := by
    unfold cutB
    split
    · simp
      omega
    · simp
  unfold pathP
  generalize cutB s 91 = c at *
  obtain ⟨n, v, b⟩ := c
  simp only at hc ⊢
  split
  · simp
  · split
    · exact ⟨hc.1, by simp⟩
    · unfold pathV
      split
      · refine ⟨hc.1, ?_⟩
        simp only [List.length_dropLast]
        omega
      · simp

theorem stepP_def (out : List Att) (x : POp) (now : List Str) (h : nowP (getL out (nameP x)) x.1 (partP x) x.2.2 = some now) : stepP out x = if 16 < now.length ∨ 32 < (setL (sortedL out) (nameP x) now).length then ([], 3) else (setL (sortedL out) (nameP x) now, 0) := by
  rw [stepP, h]

theorem pstep_fn (out : List Att) (x : POp) (hv : Valid out) (hx : OkOp x) (hp : List.length x.2.1 < 1000000) : Ctr Tryz.prog 25 [.d (atts out), .d (popD x)] (.tup [.d (atts (stepP out x).1), .d (.int .i64 (stepP out x).2)]) := by
  obtain ⟨f1, f2, f3⟩ := valid_fit hv
  have hol := hv.get (nameP x)
  have hvl := hx.len
  have hnl : List.length (nameP x) < 1000000 := by have := (path_len (s := x.2.1)).1; rw [nameP, lower_len]; omega
  have hget := get_fn out (nameP x) f1 hnl
  have hpath := path_fn x.2.1 hp
  have hlow := foldLower_fn (pathP x.2.1).1 (by have := (path_len (s := x.2.1)).1; omega)
  have hsome := stepP_def out x
  have hnone : nowP (getL out (nameP x)) x.1 (partP x) x.2.2 = none → stepP out x = ([], 6) := fun h => by rw [stepP, h]
  have hset := fun now (h : now.length ≤ 1000) => pset_fn out (nameP x) now hv (nameP_low x) hnl h
  have hop := opB_cases hx.op
  have hmc := missing_fn (getL out (nameP x)) x.2.2 (by omega) (by omega)
  have hcl := clone_fn (getL out (nameP x)) (by omega)
  have hwo := without2_fn (getL out (nameP x)) (partP x) (by omega)
  have hrl : (remL (getL out (nameP x)) (partP x)).length ≤ 16 := Nat.le_trans (List.length_filter_le _ _) hol
  have hmw := missing_fn (remL (getL out (nameP x)) (partP x)) x.2.2 (by omega) (by omega)
  have hct := contains_fn (getL out (nameP x)) (partP x) (by omega)
  have hml : (missL (getL out (nameP x)) x.2.2).length ≤ 16 := Nat.le_trans (List.length_filter_le _ _) hvl
  have hmwl : (missL (remL (getL out (nameP x)) (partP x)) x.2.2).length ≤ 16 := Nat.le_trans (List.length_filter_le _ _) hvl
  have en : lower (pathP x.2.1).1 = nameP x := rfl
  have ep : (pathP x.2.1).2.1 = partP x := rfl
  rw [en] at hlow
  rw [ep] at hpath
  obtain ⟨R, hR⟩ : ∃ R, stepP out x = R := ⟨_, rfl⟩
  rw [hR] at hsome hnone ⊢
  clear hR en ep
  generalize hN : nameP x = n at *
  generalize hP : partP x = pv at *
  obtain ⟨o, p, vs⟩ := x
  simp only at hsome hnone hpath hlow hop hmc hmw hvl hml hmwl
  generalize getL out n = old at *
  generalize (pathP p).1 = pn at *
  generalize (pathP p).2.2 = pe at *
  generalize hM : missL old vs = miss at *
  generalize hW : remL old pv = rem at *
  generalize hMW : missL rem vs = missw at *
  clear hN hP hx f1 f2 f3 hp
  simp only [atts, strs] at hget hmc hcl hwo hmw hct hset
  refine fn_of_vwpN (rv := .tmp 4) (rs := [.tmp 5]) (r := .d (atts R.1)) (ys := [.d (.int .i64 R.2)]) (fun _ => false) (by kernel_rfl) Tryz.func25 (by kernel_rfl) rfl rfl (by simp) (Nat.le_of_ble_eq_true rfl) (by kernel_rfl) rfl rfl ?_
  rcases hop with rfl | rfl | rfl
  · have hr := hsome (old ++ miss) (by rw [nowP, if_pos rfl, hM])
    have hs := hset (old ++ miss) (by simp; omega)
    simp only [List.map_append] at hs
    generalize setL (sortedL out) n (old ++ miss) = S at *
    by_cases c1 : 16 < (old ++ miss).length
    · have c1' : (16 : Int) < ((old ++ miss).length : Nat) := by omega
      rw [if_pos (.inl c1)] at hr
      subst hr
      simp only [List.length_append, Int.natCast_add] at c1 c1'
      simp -implicitDefEqProofs [popD, strs, atts]
      refine callK hpath ?_
      simp -implicitDefEqProofs
      refine callK hlow ?_
      simp -implicitDefEqProofs
      refine callK hget ?_
      simp -implicitDefEqProofs
      refine callP hcl ?_
      simp -implicitDefEqProofs
      refine callP hmc ?_
      simp -implicitDefEqProofs
      repeat refine And.intro (by omega) ?_
      refine callK hs ?_
      simp -implicitDefEqProofs [c1, c1']
    have c1' : ¬ (16 : Int) < ((old ++ miss).length : Nat) := by omega
    simp only [List.length_append, Int.natCast_add] at c1'
    by_cases c2 : 32 < S.length
    · have c2' : (32 : Int) < S.length := by omega
      rw [if_pos (.inr c2)] at hr
      subst hr
      simp -implicitDefEqProofs [popD, strs, atts]
      refine callK hpath ?_
      simp -implicitDefEqProofs
      refine callK hlow ?_
      simp -implicitDefEqProofs
      refine callK hget ?_
      simp -implicitDefEqProofs
      refine callP hcl ?_
      simp -implicitDefEqProofs
      refine callP hmc ?_
      simp -implicitDefEqProofs
      repeat refine And.intro (by omega) ?_
      refine callK hs ?_
      simp -implicitDefEqProofs [c1', c2, c2']
    · have c2' : ¬ (32 : Int) < S.length := by omega
      rw [if_neg (by omega)] at hr
      subst hr
      simp -implicitDefEqProofs [popD, strs, atts]
      refine callK hpath ?_
      simp -implicitDefEqProofs
      refine callK hlow ?_
      simp -implicitDefEqProofs
      refine callK hget ?_
      simp -implicitDefEqProofs
      refine callP hcl ?_
      simp -implicitDefEqProofs
      refine callP hmc ?_
      simp -implicitDefEqProofs
      repeat refine And.intro (by omega) ?_
      refine callK hs ?_
      simp -implicitDefEqProofs [c1', c2, c2']
  · have e1 : ¬ oRem = oAdd := by decide
    by_cases hpv : pv = []
    · have hr := hsome [] (by rw [nowP, if_neg e1, if_pos rfl, if_pos hpv])
      have hs := hset [] (by simp)
      simp only [List.map_nil] at hs
      generalize setL (sortedL out) n [] = S at *
      by_cases c2 : 32 < S.length
      · have c2' : (32 : Int) < S.length := by omega
        rw [if_pos (.inr c2)] at hr
        subst hr
        simp -implicitDefEqProofs [popD, strs, atts]
        refine callK hpath ?_
        simp -implicitDefEqProofs
        refine callK hlow ?_
        simp -implicitDefEqProofs
        refine callK hget ?_
        simp -implicitDefEqProofs [hpv]
        refine callK hs ?_
        simp -implicitDefEqProofs [c2, c2']
      · have c2' : ¬ (32 : Int) < S.length := by omega
        rw [if_neg (by simp; omega)] at hr
        subst hr
        simp -implicitDefEqProofs [popD, strs, atts]
        refine callK hpath ?_
        simp -implicitDefEqProofs
        refine callK hlow ?_
        simp -implicitDefEqProofs
        refine callK hget ?_
        simp -implicitDefEqProofs [hpv]
        refine callK hs ?_
        simp -implicitDefEqProofs [c2, c2']
    · have hr := hsome (rem) (by rw [nowP, if_neg e1, if_pos rfl, if_neg hpv, hW])
      have hs := hset (rem) (by omega)
      generalize setL (sortedL out) n (rem) = S at *
      by_cases c1 : 16 < (rem).length
      · have c1' : (16 : Int) < ((rem).length : Nat) := by omega
        rw [if_pos (.inl c1)] at hr
        subst hr
        simp -implicitDefEqProofs [popD, strs, atts]
        refine callK hpath ?_
        simp -implicitDefEqProofs
        refine callK hlow ?_
        simp -implicitDefEqProofs
        refine callK hget ?_
        simp -implicitDefEqProofs [hpv]
        refine callK hwo ?_
        simp -implicitDefEqProofs
        refine callK hs ?_
        simp -implicitDefEqProofs [c1, c1']
      have c1' : ¬ (16 : Int) < ((rem).length : Nat) := by omega
      by_cases c2 : 32 < S.length
      · have c2' : (32 : Int) < S.length := by omega
        rw [if_pos (.inr c2)] at hr
        subst hr
        simp -implicitDefEqProofs [popD, strs, atts]
        refine callK hpath ?_
        simp -implicitDefEqProofs
        refine callK hlow ?_
        simp -implicitDefEqProofs
        refine callK hget ?_
        simp -implicitDefEqProofs [hpv]
        refine callK hwo ?_
        simp -implicitDefEqProofs
        refine callK hs ?_
        simp -implicitDefEqProofs [c1', c2, c2']
      · have c2' : ¬ (32 : Int) < S.length := by omega
        rw [if_neg (by omega)] at hr
        subst hr
        simp -implicitDefEqProofs [popD, strs, atts]
        refine callK hpath ?_
        simp -implicitDefEqProofs
        refine callK hlow ?_
        simp -implicitDefEqProofs
        refine callK hget ?_
        simp -implicitDefEqProofs [hpv]
        refine callK hwo ?_
        simp -implicitDefEqProofs
        refine callK hs ?_
        simp -implicitDefEqProofs [c1', c2, c2']
  · have e1 : ¬ oRepl = oAdd := by decide
    have e2 : ¬ oRepl = oRem := by decide
    by_cases hpv : pv = []
    · have hr := hsome (vs) (by rw [nowP, if_neg e1, if_neg e2, if_pos hpv])
      have hs := hset (vs) (by omega)
      generalize setL (sortedL out) n (vs) = S at *
      by_cases c1 : 16 < (vs).length
      · have c1' : (16 : Int) < ((vs).length : Nat) := by omega
        rw [if_pos (.inl c1)] at hr
        subst hr
        simp -implicitDefEqProofs [popD, strs, atts]
        refine callK hpath ?_
        simp -implicitDefEqProofs
        refine callK hlow ?_
        simp -implicitDefEqProofs
        refine callK hget ?_
        simp -implicitDefEqProofs [hpv]
        refine callK hs ?_
        simp -implicitDefEqProofs [c1, c1']
      have c1' : ¬ (16 : Int) < ((vs).length : Nat) := by omega
      by_cases c2 : 32 < S.length
      · have c2' : (32 : Int) < S.length := by omega
        rw [if_pos (.inr c2)] at hr
        subst hr
        simp -implicitDefEqProofs [popD, strs, atts]
        refine callK hpath ?_
        simp -implicitDefEqProofs
        refine callK hlow ?_
        simp -implicitDefEqProofs
        refine callK hget ?_
        simp -implicitDefEqProofs [hpv]
        refine callK hs ?_
        simp -implicitDefEqProofs [c1', c2, c2']
      · have c2' : ¬ (32 : Int) < S.length := by omega
        rw [if_neg (by omega)] at hr
        subst hr
        simp -implicitDefEqProofs [popD, strs, atts]
        refine callK hpath ?_
        simp -implicitDefEqProofs
        refine callK hlow ?_
        simp -implicitDefEqProofs
        refine callK hget ?_
        simp -implicitDefEqProofs [hpv]
        refine callK hs ?_
        simp -implicitDefEqProofs [c1', c2, c2']
    by_cases hin : pv ∈ old
    · rw [decide_eq_true hin] at hct
      have hr := hsome (rem ++ missw) (by rw [nowP, if_neg e1, if_neg e2, if_neg hpv, if_pos hin, hW, hMW])
      have hs := hset (rem ++ missw) (by simp; omega)
      simp only [List.map_append] at hs
      generalize setL (sortedL out) n (rem ++ missw) = S at *
      by_cases c1 : 16 < (rem ++ missw).length
      · have c1' : (16 : Int) < ((rem ++ missw).length : Nat) := by omega
        rw [if_pos (.inl c1)] at hr
        subst hr
        simp only [List.length_append, Int.natCast_add] at c1 c1'
        simp -implicitDefEqProofs [popD, strs, atts]
        refine callK hpath ?_
        simp -implicitDefEqProofs
        refine callK hlow ?_
        simp -implicitDefEqProofs
        refine callK hget ?_
        simp -implicitDefEqProofs [hpv]
        refine callK hct ?_
        simp -implicitDefEqProofs
        refine callK hwo ?_
        simp -implicitDefEqProofs
        refine callK hmw ?_
        simp -implicitDefEqProofs
        repeat refine And.intro (by omega) ?_
        refine callK hs ?_
        simp -implicitDefEqProofs [c1, c1']
      have c1' : ¬ (16 : Int) < ((rem ++ missw).length : Nat) := by omega
      simp only [List.length_append, Int.natCast_add] at c1'
      by_cases c2 : 32 < S.length
      · have c2' : (32 : Int) < S.length := by omega
        rw [if_pos (.inr c2)] at hr
        subst hr
        simp -implicitDefEqProofs [popD, strs, atts]
        refine callK hpath ?_
        simp -implicitDefEqProofs
        refine callK hlow ?_
        simp -implicitDefEqProofs
        refine callK hget ?_
        simp -implicitDefEqProofs [hpv]
        refine callK hct ?_
        simp -implicitDefEqProofs
        refine callK hwo ?_
        simp -implicitDefEqProofs
        refine callK hmw ?_
        simp -implicitDefEqProofs
        repeat refine And.intro (by omega) ?_
        refine callK hs ?_
        simp -implicitDefEqProofs [c1', c2, c2']
      · have c2' : ¬ (32 : Int) < S.length := by omega
        rw [if_neg (by omega)] at hr
        subst hr
        simp -implicitDefEqProofs [popD, strs, atts]
        refine callK hpath ?_
        simp -implicitDefEqProofs
        refine callK hlow ?_
        simp -implicitDefEqProofs
        refine callK hget ?_
        simp -implicitDefEqProofs [hpv]
        refine callK hct ?_
        simp -implicitDefEqProofs
        refine callK hwo ?_
        simp -implicitDefEqProofs
        refine callK hmw ?_
        simp -implicitDefEqProofs
        repeat refine And.intro (by omega) ?_
        refine callK hs ?_
        simp -implicitDefEqProofs [c1', c2, c2']
    · rw [decide_eq_false hin] at hct
      have hr := hnone (by rw [nowP, if_neg e1, if_neg e2, if_neg hpv, if_neg hin])
      subst hr
      simp -implicitDefEqProofs [popD, strs, atts]
      refine callK hpath ?_
      simp -implicitDefEqProofs
      refine callK hlow ?_
      simp -implicitDefEqProofs
      refine callK hget ?_
      simp -implicitDefEqProofs [hpv]
      refine callK hct ?_
      simp -implicitDefEqProofs
end Go.Proofs.Tz

/- Patch operations: Apply, in both. -/
set_option maxRecDepth 100000
set_option maxHeartbeats 4000000
set_option linter.unusedVariables false
set_option linter.unusedSimpArgs false
namespace Go.Proofs.Tz
open Go.Vw Go.RowKit Go.Proofs

theorem goP_drop {out : List Att} {l : List POp} {k : Nat} (h : k < l.length) : goP out (l.drop k) = if (stepP out l[k]).2 = 0 then goP (stepP out l[k]).1 (l.drop (k + 1)) else stepP out l[k] := by rw [drop_c h]; rfl

def PApI (R : List Att × Int) (a : List Att) (l : List POp) (k : Nat) (τ : St) : Prop := τ 25 = .d (.sl (l.map popD)) ∧ τ 26 = .d (.int .i64 l.length) ∧ τ 27 = .d (.int .i64 k) ∧ ∃ out, (τ 8 = .own false 39 (out.map att) ∨ τ 8 = .d (.sl (out.map att))) ∧ Valid out ∧ R = goP out (l.drop k)

theorem papply_fn (a : List Att) (l : List POp) (ha : Fits a) (hv : FitV a) (hl : FitP l) : Ctr Tryz.prog 8 [.d (atts a), .d (pops l)] (.tup [.d (atts (applyP a l).1), .d (.int .i64 (applyP a l).2)]) := by
  refine fn_of_vwpN (rv := .tmp 4) (rs := [.tmp 5]) (r := .d (atts (applyP a l).1)) (ys := [.d (.int .i64 (applyP a l).2)]) (fun _ => false) (by kernel_rfl) Tryz.func8 (by kernel_rfl) rfl rfl (by simp) (Nat.le_of_ble_eq_true rfl) (by kernel_rfl) rfl rfl ?_
  obtain ⟨R, hR⟩ : ∃ R, applyP a l = R := ⟨_, rfl⟩
  rw [hR]
  unfold applyP at hR
  have hca := check_fn a ha hv
  have hcl := pcheck_fn l hl
  simp only [atts, pops] at hca hcl
  by_cases h1 : checkL a = 0
  case neg =>
    rw [if_neg h1] at hR
    subst hR
    simp -implicitDefEqProofs [atts, pops]
    refine callK hca ?_
    simp -implicitDefEqProofs [h1]
  rw [if_pos h1] at hR
  by_cases h2 : checkP l = 0
  case neg =>
    rw [if_neg h2] at hR
    subst hR
    simp -implicitDefEqProofs [atts, pops]
    refine callK hca ?_
    simp -implicitDefEqProofs [h1]
    refine callK hcl ?_
    simp -implicitDefEqProofs [h2]
  rw [if_pos h2] at hR
  have hva := (check_iff a).1 h1
  obtain ⟨h32, hok⟩ := (checkP_zero l).1 h2
  have hS := sorted_fn a (valid_fit hva).1
  simp only [atts] at hS
  simp -implicitDefEqProofs [atts, pops]
  refine callK hca ?_
  simp -implicitDefEqProofs [h1]
  refine callK hcl ?_
  simp -implicitDefEqProofs [h2]
  refine callK hS ?_
  simp -implicitDefEqProofs
  refine loopN l.length (PApI R a l) ?_ ?_
  · exact ⟨by simp, by simp, by simp, sortedL a, .inl (by simp), hva.sorted, by rw [← hR]; rfl⟩
  clear hR hca hcl hS
  rintro k τ hk ⟨h25, h26, h27, out, h8, hvo, hgo⟩
  by_cases hlt : k < l.length
  · have hlt' : (k : Int) < l.length := by omega
    rw [goP_drop hlt] at hgo
    have hxo := hok l[k] (List.getElem_mem hlt)
    have hst := pstep_fn out l[k] hvo hxo (hl.2 l[k] (List.getElem_mem hlt)).2.1
    have hsv := fun r => step_valid (r := r) hvo hxo
    have hse := step_err (out := out) (x := l[k])
    generalize hx : l[k] = x at *
    generalize stepP out x = S at *
    obtain ⟨o, p, vs⟩ := x
    simp only [popD, atts, strs] at hst
    by_cases h0 : S.2 = 0
    · rw [if_pos h0] at hgo
      have hv2 := (hsv S.1 (by rw [← h0])).1
      rcases h8 with h8 | h8
      all_goals
        simp -implicitDefEqProofs [h25, h26, h27, h8, hlt, hlt', hx, popD, strs]
        refine callK hst ?_
        simp -implicitDefEqProofs [h25, h26, h27, h8, hlt, hlt', h0]
        repeat refine And.intro (by omega) ?_
        exact again hlt ⟨by simp [h25], by simp [h26], by simp, S.1, .inr (by simp), hv2, hgo⟩
    · rw [if_neg h0] at hgo
      have he : S = ([], S.2) := by rw [← hse h0]
      generalize S.2 = e at *
      subst he
      subst hgo
      rcases h8 with h8 | h8
      all_goals
        simp -implicitDefEqProofs [h25, h26, h27, h8, hlt, hlt', hx, popD, strs]
        refine callK hst ?_
        simp -implicitDefEqProofs [h25, h26, h27, h8, hlt, hlt', h0, atts]
  · rw [List.drop_of_length_le (by omega)] at hgo
    have hlt' : ¬ (k : Int) < l.length := by omega
    subst hgo
    rcases h8 with h8 | h8
    all_goals
      simp -implicitDefEqProofs [h25, h26, h27, h8, hlt, hlt', goP, atts]

end Go.Proofs.Tz

/- Patch operations: the reference's Apply; differences, in both. -/
set_option maxRecDepth 100000
set_option maxHeartbeats 4000000
set_option linter.unusedVariables false
set_option linter.unusedSimpArgs false
namespace Go.Proofs.Tz
open Go.Vw Go.RowKit Go.Proofs

end Go.Proofs.Tz

/- Patch operations: sameness, and differences, in both. -/
set_option maxRecDepth 100000
set_option maxHeartbeats 4000000
set_option linter.unusedVariables false
set_option linter.unusedSimpArgs false
namespace Go.Proofs.Tz
open Go.Vw Go.RowKit Go.Proofs

theorem same_fn (l m : List Str) (hl : l.length < 1000000) (hm : m.length < 1000000) : Ctr Tryz.prog 17 [.d (strs l), .d (strs m)] (.d (.bool (decide (l = m)))) := by
  refine fn_of_vwp (fun _ => false) (by kernel_rfl) Tryz.func17 (by kernel_rfl) rfl rfl (Nat.le_of_ble_eq_true rfl) (by kernel_rfl) rfl rfl ?_
  by_cases hlm : l.length = m.length
  · simp -implicitDefEqProofs [strs, hlm]
    refine loopN m.length (fun k τ => τ 0 = .d (strs l) ∧ τ 1 = .d (strs m) ∧ τ 5 = .d (.int .i64 k) ∧ l.take k = m.take k) (by simp [strs]) ?_
    rintro k τ hk ⟨h0, h1, h5, ht⟩
    by_cases hlt : k < m.length
    · have hlt' : k < l.length := by omega
      by_cases he : l[k] = m[k]
      · simp -implicitDefEqProofs [h0, h1, h5, strs, hlm, hlt, hlt', he]
        refine ⟨by omega, again hlt ⟨by simp [h0, strs], by simp [h1, strs], by simp, ?_⟩⟩
        rw [take_s hlt, take_s hlt', ht, he]
      · simp -implicitDefEqProofs [h0, h1, h5, strs, hlm, hlt, hlt', he]
        rintro rfl
        exact he rfl
    · simp -implicitDefEqProofs [h0, h1, h5, strs, hlm, hlt]
      rw [List.take_of_length_le (by omega), List.take_of_length_le (by omega)] at ht
      first | exact ⟨by omega, ht⟩ | exact ht
  · have hlm' : ¬ (l.length : Int) = m.length := by omega
    simp -implicitDefEqProofs [strs, hlm']
    rintro rfl
    exact hlm rfl

theorem sameA_fn (l m : List Att) (hl : Fits l) (hm : Fits m) : Ctr Tryz.prog 9 [.d (atts l), .d (atts m)] (.d (.bool (decide (l = m)))) := by
  refine fn_of_vwp (fun _ => false) (by kernel_rfl) Tryz.func9 (by kernel_rfl) rfl rfl (Nat.le_of_ble_eq_true rfl) (by kernel_rfl) rfl rfl ?_
  have hl1 := hl.1
  have hm1 := hm.1
  by_cases hlm : l.length = m.length
  · simp -implicitDefEqProofs [atts, hlm]
    refine loopN m.length (fun k τ => τ 0 = .d (atts l) ∧ τ 1 = .d (atts m) ∧ τ 12 = .d (.int .i64 m.length) ∧ τ 13 = .d (.int .i64 k) ∧ l.take k = m.take k) (by simp [atts, hlm]) ?_
    rintro k τ hk ⟨h0, h1, h12, h5, ht⟩
    by_cases hlt : k < m.length
    · have hlt' : k < l.length := by omega
      by_cases he : l[k].1 = m[k].1
      · simp -implicitDefEqProofs [h0, h1, h12, h5, atts, att, strs, hlm, hlt, hlt', he]
        refine callP (same_fn _ _ (hl.2 _ (List.getElem_mem hlt')).2 (hm.2 _ (List.getElem_mem hlt)).2) ?_
        by_cases he2 : l[k].2 = m[k].2
        · simp -implicitDefEqProofs [h0, h1, h12, h5, atts, att, strs, hlm, hlt, hlt', he, he2]
          refine ⟨by omega, again hlt ⟨by simp [h0, atts, att, strs], by simp [h1, atts, att, strs], by simp [h12], by simp, ?_⟩⟩
          rw [take_s hlt, take_s hlt', ht, Prod.ext he he2]
        · simp -implicitDefEqProofs [h0, h1, h12, h5, atts, att, strs, hlm, hlt, hlt', he, he2]
          rintro rfl
          exact he2 rfl
      · simp -implicitDefEqProofs [h0, h1, h12, h5, atts, att, strs, hlm, hlt, hlt', he]
        rintro rfl
        exact he rfl
    · simp -implicitDefEqProofs [h0, h1, h12, h5, atts, hlm, hlt]
      rw [List.take_of_length_le (by omega), List.take_of_length_le (by omega)] at ht
      first | exact ⟨by omega, ht⟩ | exact ht
  · have hlm' : ¬ (l.length : Int) = m.length := by omega
    simp -implicitDefEqProofs [atts, hlm']
    rintro rfl
    exact hlm rfl

end Go.Proofs.Tz
