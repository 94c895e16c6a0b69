/-
  What the functions that the statements about references reach compute, part 6 of 6, for data of bounded size (each theorem states its bound).
-/import Derived.Test.YtcmocioniaggoaaGreatDoorTe
import Derived.Test.YtcmocioniaggoaaGreatDoorTc
import Derived.Test.YtcmocioniaggoaaGreatDoorTa
import Derived.Test.YtcmocioniaggoaaGreatDoorWc
open Go.Proofs.Tryz
set_option linter.unusedSimpArgs false
set_option linter.unusedVariables false
set_option maxRecDepth 100000
set_option maxHeartbeats 16000000
namespace Go.Proofs.Tz
open Go.Vw Go.RowKit Go.Proofs Go.Sort
theorem entB_fit {e : Ent} (h : entB e = true) : FitR e.2 ∧ List.length e.1 ≤ 300 := by
  unfold entB at h; simp only [Bool.and_eq_true, decide_eq_true_eq, List.all_eq_true] at h; obtain ⟨h1, h2, h3⟩ := h; have hv : ∀ a ∈ e.2, List.length a.1 ≤ 300 ∧ a.2.length ≤ 8 ∧ ∀ v ∈ a.2, List.length v ≤ 300 := fun a ha => by
    have := h3 a ha; simp only [attB, shB, Bool.and_eq_true, decide_eq_true_eq, List.all_eq_true] at this; exact this
  have htot : ∀ l : List Att, (∀ a ∈ l, a.2.length ≤ 8) → total l ≤ l.length * 8 := by
    intro l
    induction l with
    | nil => intro _; simp [total]
    | cons a l ih =>
      intro h; have h1 := h a (by simp); have h2 := ih (fun b hb => h b (by simp [hb])); have : total (a :: l) = a.2.length + total l := (by simp [total]); simp only [List.length_cons]; omega
  have := htot e.2 (fun a ha => (hv a ha).2.1); refine ⟨⟨⟨⟨by omega, fun a ha => ?_⟩, by omega⟩, fun a ha v hva => ?_⟩, by simpa [shB] using h1⟩
  · obtain ⟨q1, q2, _⟩ := hv a ha; exact ⟨by omega, by omega⟩
  · have := (hv a ha).2.2 v hva; omega
end Go.Proofs.Tz
namespace Go.Proofs.Tz
open Go.Vw Go.Lib
theorem nodup_sub_len {α : Type} [DecidableEq α] : ∀ {a b : List α}, a.Nodup → (∀ x ∈ a, x ∈ b) → a.length ≤ b.length
  | [], _, _, _ => Nat.zero_le _
  | x :: a, b, hn, hs => by
    have hp := List.nodup_cons.1 hn; have hx := hs x (by simp); have ih := nodup_sub_len (a := a) (b := b.erase x) hp.2 fun y hy => (List.mem_erase_of_ne (fun e : y = x => hp.1 (e ▸ hy))).2 (hs y (by simp [hy]))
    rw [List.length_erase_of_mem hx] at ih; have := List.length_pos_of_mem hx; simp only [List.length_cons]; omega
theorem isLetter_low (c : UInt8) : isLetter (lowc c) = isLetter c := by
  by_cases h : 65 ≤ (c.toNat : Int) ∧ (c.toNat : Int) ≤ 90
  · have e := lowc_toNat c h.1 h.2; have h1 : isLetter c = true := by simp only [isLetter, Bool.or_eq_true, Bool.and_eq_true, decide_eq_true_eq]; omega
    have h2 : isLetter (lowc c) = true := by simp only [isLetter, Bool.or_eq_true, Bool.and_eq_true, decide_eq_true_eq]; omega
    rw [h1, h2]
  · rw [lowc, if_neg h]
theorem nameC_low (c : UInt8) : nameC (lowc c) = nameC c := by
  by_cases h : 65 ≤ (c.toNat : Int) ∧ (c.toNat : Int) ≤ 90
  · have e := lowc_toNat c h.1 h.2; have h1 : isLetter c = true := by simp only [isLetter, Bool.or_eq_true, Bool.and_eq_true, decide_eq_true_eq]; omega
    rw [nameC, nameC, isLetter_low, h1]; simp
  · rw [lowc, if_neg h]
theorem nameB_low (s : Str) : nameB (lower s) = nameB s := by
  have h1 : (lower s).head?.any isLetter = s.head?.any isLetter := by
    cases s with
    | nil => rfl
    | cons c s => simp [lower, isLetter_low]
  have h2 : (lower s).all nameC = s.all nameC := by
    rw [Bool.eq_iff_iff, List.all_eq_true, List.all_eq_true]; simp only [lower, List.mem_map, forall_exists_index, and_imp, forall_apply_eq_imp_iff₂, nameC_low]
  rw [nameB, nameB, h1, h2, lower_len]
structure Valid (l : List Att) : Prop where
  len : l.length ≤ 32
  each : ∀ a ∈ l, nameB a.1 = true ∧ a.2 ≠ [] ∧ a.2.length ≤ 16 ∧ ∀ v ∈ a.2, cleanB v = true
  nod : ∀ a ∈ l, a.2.Nodup
  names : (l.map fun a => lower a.1).Nodup
theorem valid_sorted {r : List Att} (h1 : (sortedL r).length ≤ 32) (h2 : ∀ n v, HasL r n v → nameB n = true ∧ cleanB v = true) (h3 : ∀ n, (getL r n).length ≤ 16) : Valid (sortedL r) := by
  have hN := nf_sorted r; refine ⟨h1, fun x hx => ?_, fun x hx => (hN.vals x hx).nodup, ?_⟩
  · have hne := hN.ne x hx; have hin : ∀ v ∈ x.2, HasL r x.1 v := fun v hv => (sorted_has r x.1 v).1 ⟨x, hx, rfl, hv⟩
    obtain ⟨v, hv⟩ := List.exists_mem_of_ne_nil _ hne; refine ⟨(h2 _ _ (hin v hv)).1, hne, ?_, fun u hu => (h2 _ _ (hin u hu)).2⟩; have e : getL r x.1 = x.2 := SS_ext (SS_getL _ _) (hN.vals x hx) fun u => by
      rw [mem_getL, sorted_low hx]; constructor
      · intro h; obtain ⟨y, hy, e, hu⟩ := (sorted_has r x.1 u).2 h; rw [← nf_inj hN hy hx e]; exact hu
      · exact hin u
    rw [← e]; exact h3 x.1
  · have : ((sortedL r).map fun a => lower a.1) = (sortedL r).map (·.1) := List.map_congr_left fun x hx => sorted_low hx
    rw [this]; exact hN.names.nodup
theorem Valid.get {l : List Att} (h : Valid l) (n : Str) : (getL l n).length ≤ 16 := by
  by_cases he : getL l n = []
  · simp [he]
  obtain ⟨v, hv⟩ := List.exists_mem_of_ne_nil _ he; obtain ⟨a, ha, ea, _⟩ := (mem_getL l n v).1 hv; refine Nat.le_trans (nodup_sub_len (SS_getL l n).nodup fun u hu => ?_) (h.each a ha).2.2.1; obtain ⟨b, hb, eb, hu⟩ := (mem_getL l n u).1 hu; have : b = a := by
    obtain ⟨i, hi, rfl⟩ := List.mem_iff_getElem.1 ha; obtain ⟨j, hj, rfl⟩ := List.mem_iff_getElem.1 hb; have := nodup_inj h.names (i := i) (j := j) (by simpa using hi) (by simpa using hj) (by simp [ea, eb]); subst this; rfl
  rw [← this]; exact hu
theorem Valid.has {l : List Att} (h : Valid l) {n v : Str} (hh : HasL l n v) : nameB n = true ∧ cleanB v = true := by
  obtain ⟨a, ha, rfl, hv⟩ := hh; exact ⟨by rw [nameB_low]; exact (h.each a ha).1, (h.each a ha).2.2.2 v hv⟩
theorem Valid.sorted {l : List Att} (h : Valid l) : Valid (sortedL l) :=
  valid_sorted (Nat.le_trans (sorted_len l) h.len) (fun _ _ hh => h.has hh) h.get
theorem getL_set' (l : List Att) (name : Str) (w : List Str) (n : Str) : getL (setL (sortedL l) name w) n = if lower name = lower n then getL (setL (sortedL l) name w) name else getL l n := by
  split
  · rename_i h
    simp only [getL, h]
  · rename_i h; exact getL_other l w h
theorem Valid.set {l : List Att} (h : Valid l) {name : Str} {w : List Str} (hn : nameB name = true) (hw : ∀ v ∈ w, cleanB v = true) (h32 : (setL (sortedL l) name w).length ≤ 32) (h16 : (getL (setL (sortedL l) name w) name).length ≤ 16) : Valid (setL (sortedL l) name w) := by
  have hH := hasL_set l name w; have hG := getL_set' l name w; have key : Valid (sortedL (setL (sortedL l) name w)) := by
    have hi : sortedL (setL (sortedL l) name w) = setL (sortedL l) name w := by rw [setL, sorted_idem]
    refine valid_sorted (by rw [hi]; exact h32) (fun n v hh => ?_) (fun n => ?_)
    · rcases (hH n v).1 hh with ⟨_, h1⟩ | ⟨rfl, h1⟩
      · exact h.has h1
      · exact ⟨by rw [nameB_low]; exact hn, hw v h1⟩
    · rw [hG n]; split
      · exact h16
      · exact h.get n
  have hi : sortedL (setL (sortedL l) name w) = setL (sortedL l) name w := by rw [setL, sorted_idem]
  rw [hi] at key; exact key
theorem limL_ok {l : List Att} {name : Str} (h : (limL l name).2 = 0) : (limL l name).1 = l ∧ l.length ≤ 32 ∧ (getL l name).length ≤ 16 := by
  unfold limL at h ⊢; split at h
  · simp at h
  · rename_i hc
    rw [if_neg hc]; simp only [not_or] at hc; exact ⟨rfl, by omega, by omega⟩
theorem addP_ok {l : List Att} {name : Str} {v : List Str} (h : (addP l name v).2 = 0) : nameB name = true ∧ v ≠ [] ∧ chkV (getL l name) [] v = 0 ∧ (addP l name v).1 = setL (sortedL l) name (getL l name ++ v) ∧ (addP l name v).1.length ≤ 32 ∧ (getL (addP l name v).1 name).length ≤ 16 := by
  unfold addP at h ⊢; split at h
  · simp at h
  rename_i h1
  split at h
  · simp at h
  rename_i h2
  split at h
  · rename_i h3; exact absurd h h3
  rename_i h3
  rw [if_neg h1, if_neg h2, if_neg h3]; obtain ⟨a, b, c⟩ := limL_ok h; rw [a]; exact ⟨by simpa using h1, h2, by simpa using h3, rfl, b, c⟩
theorem removeP_ok {l : List Att} {name : Str} {v : List Str} (h : (removeP l name v).2 = 0) : nameB name = true ∧ getL l name ≠ [] ∧ ∃ o, (∀ x ∈ o, x ∈ getL l name) ∧ (removeP l name v).1 = setL (sortedL l) name o ∧ (v ≠ [] → o = (getL l name).filter fun x => !decide (x ∈ v)) := by
  unfold removeP at h ⊢; split at h
  · simp at h
  rename_i h1
  split at h
  · simp at h
  rename_i h2
  rw [if_neg h1, if_neg h2]; refine ⟨by simpa using h1, h2, ?_⟩; split at h
  · rename_i h3
    rw [if_pos h3]; exact ⟨[], by simp, rfl, fun hv => absurd h3 hv⟩
  · rename_i h3
    rw [if_neg h3]; rcases remV_spec v (getL l name) (SS_getL l name).nodup with ⟨a, b⟩ | ⟨o, a, b, c⟩
    · rw [a] at h; simp [remO] at h
    · rw [a]; exact ⟨o, fun x hx => by rw [c] at hx; exact (List.mem_filter.1 hx).1, rfl, fun _ => c⟩
theorem Valid.add {l : List Att} (h : Valid l) {name : Str} {v : List Str} (h0 : (addP l name v).2 = 0) : Valid (addP l name v).1 := by
  obtain ⟨h1, h2, h3, h4, h5, h6⟩ := addP_ok h0; rw [h4] at h5 h6 ⊢; refine h.set h1 (fun x hx => ?_) h5 h6; rcases List.mem_append.1 hx with hx | hx
  · exact (h.has ((mem_getL l name x).1 hx)).2
  · exact (((chkV_zero _ _ _).1 h3).1 x hx).1
end Go.Proofs.Tz
namespace Go.Proofs.Tz
open Go.Vw Go.RowKit Go.Proofs Go.Sort
def apR (l : List Att) (m : Mod) : List Att × Int := if m.1 = 2 then removeP l m.2.1 m.2.2 else removeP l m.2.1 []
def apE (l : List Att) (r : List Att × Int) : List Att := if r.2 = 0 then r.1 else l
def apS (l : List Att) (m : Mod) : List Att := if m.1 = 3 ∧ m.2.2 ≠ [] then apE l (apR l m) ++ [(m.2.1, m.2.2)] else apE l (apR l m)
def applyU (l : List Att) (M : List Mod) : List Att := sortedL (M.foldl apS l)
def apK (l : List Att) (M : List Mod) (k : Nat) : List Att := (M.take k).foldl apS l
theorem apK_succ {l : List Att} {M : List Mod} {k : Nat} (h : k < M.length) : apK l M (k + 1) = apS (apK l M k) M[k] := by
  unfold apK; rw [take_s h, List.foldl_append]; rfl
structure BQ (k : Nat) (l : List Att) : Prop where
  len : l.length ≤ 100 + k
  tot : total l ≤ 1000 + 100 * k
  nm : ∀ t ∈ l, List.length t.1 ≤ 1000
theorem total_memG {l : List Att} {t : Att} (h : t ∈ l) : t.2.length ≤ total l := by
  induction l with
  | nil => simp at h
  | cons x l ih =>
    simp only [total, List.map_cons, List.sum_cons] at *; rcases List.mem_cons.1 h with rfl | h
    · omega
    · have := ih h; omega
theorem total_appG (a b : List Att) : total (a ++ b) = total a + total b := by simp [total]
theorem BQ.sorted {l : List Att} {k : Nat} (h : BQ k l) : BQ k (sortedL l) := by
  refine ⟨Nat.le_trans (sorted_len l) h.len, Nat.le_trans (total_sorted l) h.tot, fun t ht => ?_⟩; obtain ⟨y, hy, _, e⟩ := sorted_name ht; rw [← e, lower_len]; exact h.nm y hy
theorem total_find (m : Str) : ∀ s : List Att, total (s.filter fun x => !decide (x.1 = m)) + (findA m s).length ≤ total s
  | [] => by simp [total, findA]
  | a :: s => by
    have h1 := total_find m s; have h2 : total (s.filter fun x => !decide (x.1 = m)) ≤ total s := by omega
    rw [findA]; by_cases e : a.1 = m
    · simp only [e, decide_true, Bool.not_true, if_true, List.filter_cons, Bool.false_eq_true, if_false]; simp only [total, List.map_cons, List.sum_cons] at *; omega
    · simp only [e, decide_false, Bool.not_false, if_true, List.filter_cons, if_false]; simp only [total, List.map_cons, List.sum_cons] at *; omega
theorem BQ.withO {l : List Att} {k : Nat} (h : BQ k l) {n : Str} {o : List Str} (hn : List.length n ≤ 1000) (ho : o.length ≤ (getL l n).length) : BQ (k + 1) (withP l n o) := by
  have hs := h.sorted; have h1 := hs.len; have h2 := total_find (lower n) (sortedL l); have h3 := hs.tot; have h4 := List.length_filter_le (fun x : Att => !decide (x.1 = lower n)) (sortedL l); refine ⟨?_, ?_, fun t ht => ?_⟩
  · unfold withP; rw [List.length_append]; simp only [List.length_cons, List.length_nil]; omega
  · unfold withP; rw [total_appG]; have : total [(lower n, o)] = o.length := (by simp [total]); rw [this]; have e : getL l n = findA (lower n) (sortedL l) := rfl; rw [e] at ho; omega
  · unfold withP at ht; rcases List.mem_append.1 ht with ht | ht
    · exact hs.nm t (List.mem_filter.1 ht).1
    · rw [List.mem_singleton.1 ht]; simp only; rw [lower_len]; exact hn
theorem BQ.fit {l : List Att} {k : Nat} (h : BQ k l) (hk : k ≤ 1000) : Fit2 l :=
  ⟨⟨by have := h.len; omega, fun t ht => ⟨by have := h.nm t ht; omega, by have := total_memG ht; have := h.tot; omega⟩⟩, by have := h.tot; omega⟩
theorem rem_o {l : List Att} {n : Str} {v o : List Str} (ho : o = [] ∨ remV (getL l n) v = some o) : o.length ≤ (getL l n).length := by
  rcases ho with rfl | ho
  · simp
  · rcases remV_spec v (getL l n) (SS_getL l n).nodup with ⟨a, _⟩ | ⟨o', a, _, c⟩
    · rw [a] at ho; cases ho
    · rw [a] at ho; cases ho; rw [c]; exact List.length_filter_le _ _
theorem BQ.rem {l : List Att} {k : Nat} (h : BQ k l) {n : Str} {v : List Str} (hn : List.length n ≤ 1000) (h0 : (removeP l n v).2 = 0) : BQ (k + 1) (removeP l n v).1 := by
  obtain ⟨q1, q2, o, h3, h4, h5⟩ := removeP_ok h0; by_cases hv : v = []
  · subst hv; have e : (removeP l n []).1 = setL (sortedL l) n [] := by unfold removeP; simp [q1, q2]
    rw [e]; exact (h.withO hn (o := []) (by simp)).sorted
  · rw [h4, h5 hv]; exact (h.withO hn (List.length_filter_le _ _)).sorted
theorem BQ.mono {l : List Att} {k j : Nat} (h : BQ k l) (hk : k ≤ j) : BQ j l := ⟨by have := h.len; omega, by have := h.tot; omega, h.nm⟩
structure FitG (M : List Mod) : Prop where
  len : M.length ≤ 400
  nm : ∀ m ∈ M, List.length m.2.1 ≤ 1000
  val : ∀ m ∈ M, m.2.2.length ≤ 100
theorem BQ.step {l : List Att} {k : Nat} (h : BQ k l) {m : Mod} (hn : List.length m.2.1 ≤ 1000) (hv : m.2.2.length ≤ 100) : BQ (k + 2) (apS l m) := by
  have h1 : BQ (k + 1) (apE l (apR l m)) := by
    unfold apE; split
    · rename_i h0
      unfold apR at h0 ⊢; split
      · rename_i e; rw [if_pos e] at h0; exact h.rem hn h0
      · rename_i e; rw [if_neg e] at h0; exact h.rem hn h0
    · exact h.mono (by omega)
  unfold apS; split
  · refine ⟨by have := h1.len; simp; omega, ?_, fun t ht => ?_⟩
    · rw [total_appG]; have : total [(m.2.1, m.2.2)] = m.2.2.length := (by simp [total]); have := h1.tot; omega
    · rcases List.mem_append.1 ht with ht | ht
      · exact h1.nm t ht
      · rw [List.mem_singleton.1 ht]; exact hn
  · exact h1.mono (by omega)
theorem apK_bq {l : List Att} (h : BQ 0 l) {M : List Mod} (hM : FitG M) : ∀ k, k ≤ M.length → BQ (2 * k) (apK l M k)
  | 0, _ => by simpa [apK] using h
  | k + 1, hk => by
    rw [apK_succ (by omega)]; exact (apK_bq h hM k (by omega)).step (hM.nm _ (gmm _)) (hM.val _ (gmm _))
theorem rem_q {l : List Att} {k : Nat} (h : BQ k l) (hk : k ≤ 900) (n : Str) (v : List Str) (hn : List.length n ≤ 1000) (hv : v.length ≤ 100) :
    Ctr prog 85 [.d (atts l), .d (.str n), .d (strs v)] (.tup [.d (atts (removeP l n v).1), .d (.int .i64 (removeP l n v).2)]) :=
  remove_fn l n v (h.fit (by omega)) (by have := h.len; omega) (by omega) (by omega) (fun o ho => (h.withO hn (rem_o ho)).fit (by omega))
def RgA (A : List Att) (M : List Mod) (k : Nat) (τ : St) : Prop := (τ 0 = .d (atts (apK A M k)) ∨ τ 0 = .own false 89 ((apK A M k).map att)) ∧ τ 1 = .d (mods M) ∧ τ 5 = .d (.int .i64 k)
theorem apply_fn (A : List Att) (hA : BQ 0 A) (M : List Mod) (hM : FitG M) : Ctr prog 36 [.d (atts A), .d (mods M)] (.d (atts (applyU A M))) := by
  refine fv (fun i => i == 9000010 || i == 14000010 || i == 15000000 || i == 63 || i == 65) func36 (by kernel_rfl) rfl rfl rfl rfl rfl ?_; have hmw : ∀ m : Mod, width (modD m) = 3 := fun _ => rfl
  have hML := hM.len; simp -implicitDefEqProofs [atts, mods]; refine loopN M.length (RgA A M) ⟨.inl (by simp [atts, apK]), by simp [mods], by simp⟩ ?_; rintro k τ hk ⟨g0, g1, g5⟩; rcases g0 with g0 | g0
  · have hB := apK_bq hA hM k hk; by_cases hlt : k < M.length
    · have hlt' : (k : Int) < M.length := (by omega); have hN := apK_succ (l := A) hlt; have hn := hM.nm _ (gmm hlt); have hv := hM.val _ (gmm hlt); generalize hL2 : apK A M (k + 1) = L2 at *; generalize apK A M k = L1 at *; generalize hx : M[k] = m at *; obtain ⟨kd, nm, vs⟩ := m; have c1 := rem_q hB (by omega) nm [] hn (by simp); have c2 := rem_q hB (by omega) nm vs hn hv; simp only [apS, apR] at hN; simp only at hv; simp only [strs, List.map_nil, atts] at c1 c2; by_cases k2 : kd = 2
      · subst k2; simp only [if_true, show ¬ ((2 : Int) = 3) by decide, false_and, if_false] at hN; generalize removeP L1 nm [] = r1 at *; generalize removeP L1 nm vs = r2 at *; simp -implicitDefEqProofs [g0, g1, g5, hlt, hlt', hx, mods, modD, atts, strs, hmw]; refine callK c1 ?_; simp -implicitDefEqProofs [g0, g1, g5, hlt, hlt', hx, mods, modD, atts, strs, hmw]; refine callP c2 ?_; by_cases e0 : r2.2 = 0
        · simp only [apE, if_pos e0] at hN; simp -implicitDefEqProofs [g0, g1, g5, hlt, hlt', hx, mods, modD, atts, strs, hmw, e0]; (repeat refine ai (by omega) ?_); exact again hlt ⟨.inl (by simp [atts, hL2, hN]), by simp [g1, mods], by simp⟩
        · simp only [apE, if_neg e0] at hN; simp -implicitDefEqProofs [g0, g1, g5, hlt, hlt', hx, mods, modD, atts, strs, hmw, e0]; (repeat refine ai (by omega) ?_); exact again hlt ⟨.inl (by simp [atts, hL2, hN, g0]), by simp [g1, mods], by simp⟩
      · simp only [if_neg k2] at hN; have hR := fun e => (hB.rem (v := []) hn e).len
        have hB1 := hB.len; generalize removeP L1 nm [] = r1 at *; clear c2; simp -implicitDefEqProofs [g0, g1, g5, hlt, hlt', hx, mods, modD, atts, strs, hmw, k2]; refine callK c1 ?_; by_cases e0 : r1.2 = 0
        · simp only [apE, if_pos e0] at hN; by_cases k3 : kd = 3
          · by_cases v0 : vs = []
            · subst v0; simp -implicitDefEqProofs only [ne_eq, not_true_eq_false, and_false, if_false] at hN; simp -implicitDefEqProofs [g0, g1, g5, hlt, hlt', hx, mods, modD, atts, strs, hmw, k2, e0, k3]; (repeat refine ai (by omega) ?_); exact again hlt ⟨.inl (by simp [atts, hL2, hN]), by simp [g1, mods], by simp⟩
            · have v1 : 0 < vs.length := List.length_pos_iff.2 v0; simp only [k3, v0, ne_eq, not_false_eq_true, and_self, if_true] at hN; simp -implicitDefEqProofs [g0, g1, g5, hlt, hlt', hx, mods, modD, atts, strs, hmw, k2, e0, k3, v1]; have hR1 := hR e0; refine ⟨fun u x y _ e => by rw [← e]; rfl, ?_⟩; (repeat refine ai (by omega) ?_); exact again hlt ⟨.inr (by simp [atts, hL2, hN, strs, att]), by simp [g1, mods], by simp⟩
          · simp only [k3, false_and, if_false] at hN; simp -implicitDefEqProofs [g0, g1, g5, hlt, hlt', hx, mods, modD, atts, strs, hmw, k2, e0, k3]; (repeat refine ai (by omega) ?_); exact again hlt ⟨.inl (by simp [atts, hL2, hN]), by simp [g1, mods], by simp⟩
        · simp only [apE, if_neg e0] at hN; by_cases k3 : kd = 3
          · by_cases v0 : vs = []
            · subst v0; simp -implicitDefEqProofs only [ne_eq, not_true_eq_false, and_false, if_false] at hN; simp -implicitDefEqProofs [g0, g1, g5, hlt, hlt', hx, mods, modD, atts, strs, hmw, k2, e0, k3]; (repeat refine ai (by omega) ?_); exact again hlt ⟨.inl (by simp [atts, hL2, hN, g0]), by simp [g1, mods], by simp⟩
            · have v1 : 0 < vs.length := List.length_pos_iff.2 v0; simp only [k3, v0, ne_eq, not_false_eq_true, and_self, if_true] at hN; simp -implicitDefEqProofs [g0, g1, g5, hlt, hlt', hx, mods, modD, atts, strs, hmw, k2, e0, k3, v1]; refine ⟨fun u x y _ e => by rw [← e]; rfl, ?_⟩; (repeat refine ai (by omega) ?_); exact again hlt ⟨.inr (by simp [atts, hL2, hN, strs, att]), by simp [g1, mods], by simp⟩
          · simp only [k3, false_and, if_false] at hN; simp -implicitDefEqProofs [g0, g1, g5, hlt, hlt', hx, mods, modD, atts, strs, hmw, k2, e0, k3]; (repeat refine ai (by omega) ?_); exact again hlt ⟨.inl (by simp [atts, hL2, hN, g0]), by simp [g1, mods], by simp⟩
    · have hlt' : ¬ (k : Int) < M.length := (by omega); obtain rfl : k = M.length := by omega
      have hE : applyU A M = sortedL (apK A M M.length) := by unfold applyU apK; rw [List.take_length]
      have c1 := Ctr.asData (sorted_fn _ (hB.fit (by omega))); rw [hE]; generalize apK A M M.length = L at *; generalize sortedL L = S at *; simp only [atts] at c1; simp -implicitDefEqProofs [g0, g1, g5, hlt', mods, atts]; refine callK c1 ?_; simp -implicitDefEqProofs [atts]
  · have hB := apK_bq hA hM k hk; by_cases hlt : k < M.length
    · have hlt' : (k : Int) < M.length := (by omega); have hN := apK_succ (l := A) hlt; have hn := hM.nm _ (gmm hlt); have hv := hM.val _ (gmm hlt); generalize hL2 : apK A M (k + 1) = L2 at *; generalize apK A M k = L1 at *; generalize hx : M[k] = m at *; obtain ⟨kd, nm, vs⟩ := m; have c1 := rem_q hB (by omega) nm [] hn (by simp); have c2 := rem_q hB (by omega) nm vs hn hv; simp only [apS, apR] at hN; simp only at hv; simp only [strs, List.map_nil, atts] at c1 c2; by_cases k2 : kd = 2
      · subst k2; simp only [if_true, show ¬ ((2 : Int) = 3) by decide, false_and, if_false] at hN; generalize removeP L1 nm [] = r1 at *; generalize removeP L1 nm vs = r2 at *; simp -implicitDefEqProofs [g0, g1, g5, hlt, hlt', hx, mods, modD, atts, strs, hmw]; refine callK c1 ?_; simp -implicitDefEqProofs [g0, g1, g5, hlt, hlt', hx, mods, modD, atts, strs, hmw]; refine callP c2 ?_; by_cases e0 : r2.2 = 0
        · simp only [apE, if_pos e0] at hN; simp -implicitDefEqProofs [g0, g1, g5, hlt, hlt', hx, mods, modD, atts, strs, hmw, e0]; (repeat refine ai (by omega) ?_); exact again hlt ⟨.inl (by simp [atts, hL2, hN]), by simp [g1, mods], by simp⟩
        · simp only [apE, if_neg e0] at hN; simp -implicitDefEqProofs [g0, g1, g5, hlt, hlt', hx, mods, modD, atts, strs, hmw, e0]; (repeat refine ai (by omega) ?_); exact again hlt ⟨.inr (by simp [atts, hL2, hN, g0]), by simp [g1, mods], by simp⟩
      · simp only [if_neg k2] at hN; have hR := fun e => (hB.rem (v := []) hn e).len
        have hB1 := hB.len; generalize removeP L1 nm [] = r1 at *; clear c2; simp -implicitDefEqProofs [g0, g1, g5, hlt, hlt', hx, mods, modD, atts, strs, hmw, k2]; refine callK c1 ?_; by_cases e0 : r1.2 = 0
        · simp only [apE, if_pos e0] at hN; by_cases k3 : kd = 3
          · by_cases v0 : vs = []
            · subst v0; simp -implicitDefEqProofs only [ne_eq, not_true_eq_false, and_false, if_false] at hN; simp -implicitDefEqProofs [g0, g1, g5, hlt, hlt', hx, mods, modD, atts, strs, hmw, k2, e0, k3]; (repeat refine ai (by omega) ?_); exact again hlt ⟨.inl (by simp [atts, hL2, hN]), by simp [g1, mods], by simp⟩
            · have v1 : 0 < vs.length := List.length_pos_iff.2 v0; simp only [k3, v0, ne_eq, not_false_eq_true, and_self, if_true] at hN; simp -implicitDefEqProofs [g0, g1, g5, hlt, hlt', hx, mods, modD, atts, strs, hmw, k2, e0, k3, v1]; have hR1 := hR e0; refine ⟨fun u x y _ e => by rw [← e]; rfl, ?_⟩; (repeat refine ai (by omega) ?_); exact again hlt ⟨.inr (by simp [atts, hL2, hN, strs, att]), by simp [g1, mods], by simp⟩
          · simp only [k3, false_and, if_false] at hN; simp -implicitDefEqProofs [g0, g1, g5, hlt, hlt', hx, mods, modD, atts, strs, hmw, k2, e0, k3]; (repeat refine ai (by omega) ?_); exact again hlt ⟨.inl (by simp [atts, hL2, hN]), by simp [g1, mods], by simp⟩
        · simp only [apE, if_neg e0] at hN; by_cases k3 : kd = 3
          · by_cases v0 : vs = []
            · subst v0; simp -implicitDefEqProofs only [ne_eq, not_true_eq_false, and_false, if_false] at hN; simp -implicitDefEqProofs [g0, g1, g5, hlt, hlt', hx, mods, modD, atts, strs, hmw, k2, e0, k3]; (repeat refine ai (by omega) ?_); exact again hlt ⟨.inr (by simp [atts, hL2, hN, g0]), by simp [g1, mods], by simp⟩
            · have v1 : 0 < vs.length := List.length_pos_iff.2 v0; simp only [k3, v0, ne_eq, not_false_eq_true, and_self, if_true] at hN; simp -implicitDefEqProofs [g0, g1, g5, hlt, hlt', hx, mods, modD, atts, strs, hmw, k2, e0, k3, v1]; refine ⟨fun u x y _ e => by rw [← e]; rfl, ?_⟩; (repeat refine ai (by omega) ?_); exact again hlt ⟨.inr (by simp [atts, hL2, hN, strs, att]), by simp [g1, mods], by simp⟩
          · simp only [k3, false_and, if_false] at hN; simp -implicitDefEqProofs [g0, g1, g5, hlt, hlt', hx, mods, modD, atts, strs, hmw, k2, e0, k3]; (repeat refine ai (by omega) ?_); exact again hlt ⟨.inr (by simp [atts, hL2, hN, g0]), by simp [g1, mods], by simp⟩
    · have hlt' : ¬ (k : Int) < M.length := (by omega); obtain rfl : k = M.length := by omega
      have hE : applyU A M = sortedL (apK A M M.length) := by unfold applyU apK; rw [List.take_length]
      have c1 := Ctr.asData (sorted_fn _ (hB.fit (by omega))); rw [hE]; generalize apK A M M.length = L at *; generalize sortedL L = S at *; simp only [atts] at c1; simp -implicitDefEqProofs [g0, g1, g5, hlt', mods, atts]; refine callK c1 ?_; simp -implicitDefEqProofs [atts]
theorem has_of {A : List Att} {a : Att} (ha : a ∈ sortedL A) (v : Str) : HasL A a.1 v ↔ v ∈ a.2 := by
  rw [← sorted_has]; constructor
  · rintro ⟨x, hx, e, hv⟩; rw [← nf_inj (nf_sorted A) hx ha e]; exact hv
  · intro hv; exact ⟨a, ha, rfl, hv⟩
theorem mem_refsU (s : Sch) (A : List Att) (x : Str) : x ∈ refsU s A ↔ ∃ m v, HasL A m v ∧ isNm s m = true ∧ refOf v = some x := by
  unfold refsU; rw [(insAll_spec (refsL s A) [] List.Pairwise.nil).2 x]; simp only [List.not_mem_nil, false_or, refsL, List.mem_flatMap, List.mem_filter, List.mem_filterMap]; constructor
  · rintro ⟨a, ⟨ha, hn⟩, v, hv, hx⟩; exact ⟨a.1, v, (has_of ha v).2 hv, hn, hx⟩
  · rintro ⟨m, v, hh, hn, hx⟩; obtain ⟨a, ha, rfl, hv⟩ := (sorted_has A m v).2 hh; exact ⟨a, ⟨ha, hn⟩, v, hv, hx⟩
theorem any_succ {p : Str → Bool} {V : List Str} {k : Nat} (h : k < V.length) : (V.take (k + 1)).any p = ((V.take k).any p || p V[k]) := by
  rw [take_s h, List.any_append]; simp
section
variable (p : Nat) (rd : D) (hw : width rd = 1) (E : List Ent) (hE : TI E) (hR : FR E) (hn : ∀ e ∈ E, List.length e.1 < 900000) (s : Sch) (hs : FitSch s)
include hw hE hR hn hs
end
theorem brokenU_len {s : Sch} {E : List Ent} (hE : TI E) (hR : FR E) : (brokenU s E).length < 140000000 := by
  rw [← brkP_all]; have h1 := brkP_len (s := s) hR E.length (Nat.le_refl _); have h2 := hE.few; have h3 : E.length * 500000 ≤ 256 * 500000 := Nat.mul_le_mul_right _ h2; omega
theorem name_clean {c : UInt8} (h : nameC c = true) : cleanC c = true ∧ c ≠ 32 := by
  have h32 : ((32 : UInt8).toNat : Int) = 32 := rfl; simp only [nameC, isLetter, isDigit, cleanC, Bool.or_eq_true, Bool.and_eq_true, decide_eq_true_eq] at h ⊢; refine ⟨by omega, fun e => ?_⟩; subst e; omega
theorem low_clean {c : UInt8} (h : cleanC c = true) : cleanC (lowc c) = true := by
  by_cases hr : 65 ≤ (c.toNat : Int) ∧ (c.toNat : Int) ≤ 90
  · have := lowc_toNat c hr.1 hr.2; simp only [cleanC, Bool.and_eq_true, decide_eq_true_eq]; omega
  · rw [lowc, if_neg hr]; exact h
theorem low_space {c : UInt8} (h : c ≠ 32) : lowc c ≠ 32 := by
  by_cases hr : 65 ≤ (c.toNat : Int) ∧ (c.toNat : Int) ≤ 90
  · have h1 := lowc_toNat c hr.1 hr.2; intro e; rw [e] at h1; have h32 : ((32 : UInt8).toNat : Int) = 32 := rfl; omega
  · rw [lowc, if_neg hr]; exact h
theorem sqz_sub : ∀ (s : Str) (p : UInt8), ∀ x ∈ sqz p s, x ∈ s
  | [], _, x, h => by simp [sqz] at h
  | y :: s, p, x, h => by
    rw [sqz] at h; split at h
    · exact List.mem_cons_of_mem _ (sqz_sub s y x h)
    · rcases List.mem_cons.1 h with rfl | h
      · simp
      · exact List.mem_cons_of_mem _ (sqz_sub s y x h)
theorem clean_spec {s : Str} (h : cleanB s = true) : s ≠ [] ∧ s.head? ≠ some 32 ∧ s.getLast? ≠ some 32 ∧ ∀ c ∈ s, cleanC c = true := by
  simp only [cleanB, Bool.and_eq_true, decide_eq_true_eq, bne_iff_ne, ne_eq, List.all_eq_true] at h; obtain ⟨⟨⟨⟨h1, _⟩, h2⟩, h3⟩, h4⟩ := h; exact ⟨fun e => by rw [e] at h1; simp at h1, h2, h3, h4⟩
theorem fold_clean {v : Str} (h : cleanB v = true) : ∃ a c, foldS v = a ++ [c] ∧ c ≠ 32 ∧ ∀ x ∈ foldS v, cleanC x = true := by
  obtain ⟨h1, h2, h3, h4⟩ := clean_spec h; have hlen : 0 < List.length v := List.length_pos_iff.2 h1; have ht : trimB v = v := trimB_id h2 (fun hl e => h3 (by rw [List.getLast?_eq_getElem?]; rw [List.getElem?_eq_getElem (by omega), e])); obtain ⟨b, x, rfl⟩ : ∃ b x, v = b ++ [x] := ⟨v.dropLast, v.getLast h1, (List.dropLast_concat_getLast h1).symm⟩; have hx : x ≠ 32 := fun e => h3 (by simp [e])
  refine ⟨sqz 0 (lower b), lowc x, ?_, low_space hx, fun y hy => ?_⟩
  · have hl : lower (b ++ [x]) = lower b ++ [lowc x] := (by simp [lower]); unfold foldS; rw [ht, hl, sqz_snoc, if_neg (fun q => low_space hx q.1)]
  · unfold foldS at hy; rw [ht] at hy; have := sqz_sub _ _ y hy; obtain ⟨z, hz, rfl⟩ := List.mem_map.1 this; exact low_clean (h4 z hz)
theorem esc_sub : ∀ (s : Str), ∀ x ∈ escV s, x = 92 ∨ x ∈ s := by
  intro s x hx; obtain ⟨c, hc, hx⟩ := List.mem_flatMap.1 hx; split at hx
  · rcases List.mem_cons.1 hx with rfl | hx
    · exact .inl rfl
    · rw [List.mem_singleton] at hx; exact .inr (hx ▸ hc)
  · rw [List.mem_singleton] at hx; exact .inr (hx ▸ hc)
theorem fmt_all {p : Pair} (h1 : nameB p.1 = true) (h2 : cleanB p.2 = true) : (∀ x ∈ fmtC p, cleanC x = true) ∧ fmtC p ≠ [] ∧ (fmtC p).head? ≠ some 32 ∧ (fmtC p).getLast? ≠ some 32 := by
  obtain ⟨a, c, e1, e2, e3⟩ := fold_clean h2; have hn := h1; simp only [nameB, Bool.and_eq_true, decide_eq_true_eq, List.all_eq_true] at hn; obtain ⟨⟨⟨n1, _⟩, _⟩, n4⟩ := hn; have hne : p.1 ≠ [] := fun e => by rw [e] at n1; simp at n1
  refine ⟨fun x hx => ?_, by simp [fmtC], ?_, ?_⟩
  · unfold fmtC at hx; rcases List.mem_append.1 hx with hx | hx
    · obtain ⟨z, hz, rfl⟩ := List.mem_map.1 hx; exact low_clean (name_clean (n4 z hz)).1
    · rcases List.mem_cons.1 hx with rfl | hx
      · rfl
      · rcases esc_sub _ x hx with rfl | hx
        · rfl
        · exact e3 x hx
  · unfold fmtC; cases hp : p.1 with
    | nil => exact absurd hp hne
    | cons z r =>
      simp only [lower, List.map_cons, List.cons_append, List.head?_cons]; intro e; have := low_space (name_clean (n4 z (by rw [hp]; simp))).2; exact this (by simpa using e)
  · have : escV (foldS p.2) = escV a ++ (if specB c = true then [92, c] else [c]) := by rw [e1]; simp [escV]
    obtain ⟨X, hX⟩ : ∃ X, fmtC p = X ++ [c] := by
      unfold fmtC; rw [this]; by_cases hs : specB c = true
      · exact ⟨lower p.1 ++ 61 :: (escV a ++ [92]), by simp [hs]⟩
      · exact ⟨lower p.1 ++ 61 :: escV a, by simp [hs]⟩
    rw [hX]; simp [e2]
theorem join_all : ∀ (l : List Str), l ≠ [] → (∀ p ∈ l, (∀ x ∈ p, cleanC x = true) ∧ p ≠ [] ∧ p.head? ≠ some 32 ∧ p.getLast? ≠ some 32) → (∀ x ∈ joinB 44 l, cleanC x = true) ∧ joinB 44 l ≠ [] ∧ (joinB 44 l).head? ≠ some 32 ∧ (joinB 44 l).getLast? ≠ some 32
  | [], h, _ => absurd rfl h
  | [p], _, h => by simpa [joinB] using h p (by simp)
  | p :: q :: l, _, h => by
    obtain ⟨a1, a2, a3, a4⟩ := h p (by simp); obtain ⟨b1, b2, b3, b4⟩ := join_all (q :: l) (by simp) (fun r hr => h r (by simp [List.mem_cons.1 hr])); rw [joinB]; refine ⟨fun x hx => ?_, by simp, ?_, ?_⟩
    · rcases List.mem_append.1 hx with hx | hx
      · exact a1 x hx
      · rcases List.mem_cons.1 hx with rfl | hx
        · rfl
        · exact b1 x hx
    · rw [List.head?_append]; cases hp : p.head? with
      | none => exact absurd (List.head?_eq_none_iff.1 hp) a2
      | some y => rw [hp] at a3; simpa using a3
    · rw [List.getLast?_append, List.getLast?_cons]; cases hj : (joinB 44 (q :: l)).getLast? with
      | none => exact absurd (List.getLast?_eq_none_iff.1 hj) b2
      | some y => rw [hj] at b4; simpa [hj] using b4
theorem norm_clean {t : Str} {l : List Pair} (h : normU t = some l) (hl : l ≠ []) (h256 : t.length ≤ 256) : cleanB t = true := by
  obtain ⟨h1, _, h3, _⟩ := normU_inv h; obtain ⟨a1, a2, a3, a4⟩ := join_all (l.map fmtC) (by simpa using hl) (fun p hp => by
    obtain ⟨q, hq, rfl⟩ := List.mem_map.1 hp; have := compU_ok (h1 q hq); exact fmt_all this.1 this.2)
  rw [← h3] at a1 a2 a3 a4; have hpos : 1 ≤ t.length := List.length_pos_iff.2 a2; simp only [cleanB, Bool.and_eq_true, decide_eq_true_eq, bne_iff_ne, ne_eq, List.all_eq_true]; exact ⟨⟨⟨⟨hpos, h256⟩, a3⟩, a4⟩, a1⟩
theorem ref_norm {t : Str} (h : validU t = true) (h0 : t ≠ []) : refOf t = some t := by
  have := validU_clean t; rw [h] at this; simp only [Bool.true_eq, Bool.and_eq_true, decide_eq_true_eq] at this; rw [refOf, if_pos ⟨this.1, by rw [this.2]; exact h0⟩, this.2]
theorem tysE_name : ∀ (r T : List Ty), tysE T r = 0 → ∀ t ∈ r, nameB t.1 = true
  | [], _, _, t, h => by simp at h
  | x :: r, T, h, t, ht => by
    rw [tysE] at h; split at h
    · rename_i h0
      rcases List.mem_cons.1 ht with rfl | ht
      · unfold tyE at h0; split at h0
        · simp at h0
        · rename_i h1; simpa using h1
      · exact tysE_name r _ h t ht
    · rename_i h0; exact absurd h h0
theorem isNm_name {s : Sch} {m : Str} (h : isNm s m = true) : nameB m = true := by
  simp only [isNm, Bool.and_eq_true] at h; have h1 := h.1; unfold typeU at h1; split at h1
  · rename_i h0
    cases hf : tyFind s.1 m with
    | none => rw [hf] at h1; simp at h1
    | some t =>
      obtain ⟨h2, h3⟩ := tyFind_at hf; have h4 : tysE [] s.1 = 0 := by
        unfold schE at h0; split at h0
        · simp at h0
        split at h0
        · rename_i h5; exact absurd h0 h5
        · rename_i h5; simpa using h5
      have := tysE_name _ _ h4 t h2; rw [← nameB_low, ← h3, nameB_low]; exact this
  · simp at h1
theorem renV_id {fr to u : Str} (h : (renV fr to u).2 = false) : (renV fr to u).1 = u := by
  unfold renV at h ⊢; split
  · rfl
  · split
    · rename_i n hn hc; rw [hn] at h; simp only [if_pos hc] at h; cases h
    · rfl
theorem ren_fold {A : List Att} {fr to : Str} : ∀ (L2 L1 : List Att), (∀ a ∈ L1 ++ L2, a ∈ sortedL A ∧ nameB a.1 = true) → ((L1 ++ L2).map (·.1)).Nodup →
    ∀ cur, (∀ m v, HasL cur m v ↔ (m ∉ L1.map (·.1) ∧ HasL A m v) ∨ (m ∈ L1.map (·.1) ∧ ∃ u, HasL A m u ∧ v = (renV fr to u).1)) →
    ∀ m v, HasL ((L2.filterMap (renA fr to)).foldl apS cur) m v ↔ (m ∉ (L1 ++ L2).map (·.1) ∧ HasL A m v) ∨ (m ∈ (L1 ++ L2).map (·.1) ∧ ∃ u, HasL A m u ∧ v = (renV fr to u).1)
  | [], L1, _, _, cur, hc, m, v => by simpa using hc m v
  | a :: L2, L1, hs, hd, cur, hc, m, v => by
    have e : L1 ++ a :: L2 = (L1 ++ [a]) ++ L2 := (by simp); obtain ⟨ha, hnm⟩ := hs a (by simp); have hla := sorted_low ha; have hna : a.1 ∉ L1.map (·.1) := by
      intro hm; rw [List.map_append, List.nodup_append] at hd; exact hd.2.2 _ hm _ (by simp) rfl
    have hA := has_of ha; have hcur : ∀ v, HasL cur a.1 v ↔ v ∈ a.2 := fun v => by rw [hc, hA]; simp only [hna, not_false_eq_true, true_and, false_and, or_false]
    have hmem : ∀ m, m ∈ (L1 ++ [a]).map (·.1) ↔ m ∈ L1.map (·.1) ∨ m = a.1 := fun m => by simp
    rw [e, List.filterMap_cons]; unfold renA; by_cases hf : (a.2.any fun v => (renV fr to v).2) = true
    · simp only [hf, if_true, List.foldl_cons]; refine ren_fold L2 (L1 ++ [a]) (by rw [← e]; exact hs) (by rw [← e]; exact hd) _ (fun m v => ?_) m v; generalize hW : (a.2.map fun v => (renV fr to v).1).foldl ins [] = W at *; have hWm : ∀ x, x ∈ W ↔ ∃ u ∈ a.2, x = (renV fr to u).1 := fun x => by
        rw [← hW, (insAll_spec _ [] List.Pairwise.nil).2]; simp only [List.not_mem_nil, false_or, List.mem_map]; exact ⟨fun ⟨u, h1, h2⟩ => ⟨u, h1, h2.symm⟩, fun ⟨u, h1, h2⟩ => ⟨u, h1, h2.symm⟩⟩
      obtain ⟨u0, hu0, _⟩ := List.any_eq_true.1 hf; have hW0 : W ≠ [] := List.ne_nil_of_mem ((hWm _).2 ⟨u0, hu0, rfl⟩); have hg0 : getL cur a.1 ≠ [] := List.ne_nil_of_mem (a := u0) (by rw [mem_getL, hla, hcur]; exact hu0); have hr : removeP cur a.1 [] = (setL (sortedL cur) a.1 [], 0) := by unfold removeP; simp [hnm, hg0]
      have hst : apS cur (3, a.1, W) = setL (sortedL cur) a.1 [] ++ [(a.1, W)] := by
        unfold apS apE apR; simp only [true_and, ne_eq, hW0, not_false_eq_true, if_true, show ¬ ((3 : Int) = 2) by decide, if_false, hr]
      rw [hst, hasL_app, hasL_set, hasL_one, hla, hmem]; simp only [List.not_mem_nil, and_false, or_false]; by_cases em : m = a.1
      · subst em; simp only [ne_eq, not_true_eq_false, false_and, true_and, false_or, or_true, hWm, hA]
      · have em' : ¬ a.1 = m := fun q => em q.symm
        simp only [em, em', ne_eq, not_false_eq_true, true_and, false_and, or_false]; exact hc m v
    · have hf' : (a.2.any fun v => (renV fr to v).2) = false := by simpa using hf
      simp only [hf', Bool.false_eq_true, if_false]; refine ren_fold L2 (L1 ++ [a]) (by rw [← e]; exact hs) (by rw [← e]; exact hd) cur (fun m v => ?_) m v; have hid : ∀ u ∈ a.2, (renV fr to u).1 = u := fun u hu => renV_id (by
        have := List.any_eq_false.1 hf' u hu; simpa using this)
      rw [hmem]; by_cases em : m = a.1
      · subst em; rw [hcur]; simp only [or_true, not_true_eq_false, false_and, false_or, true_and, hA]; exact ⟨fun h => ⟨v, h, (hid v h).symm⟩, fun ⟨u, h1, h2⟩ => by rw [h2, hid u h1]; exact h1⟩
      · simp only [em, or_false]; exact hc m v
theorem ren_has {A : List Att} (s : Sch) {fr to : Str} (h1 : fr ≠ []) (h2 : to ≠ []) (h3 : validU fr = true) (h4 : validU to = true) (m v : Str) :
    HasL (applyU A (renamedU s A fr to)) m v ↔ (isNm s m = false ∧ HasL A m v) ∨ (isNm s m = true ∧ ∃ u, HasL A m u ∧ v = (renV fr to u).1) := by
  unfold applyU renamedU; rw [hasL_sorted, if_neg (by simp [h1, h2, h3, h4])]; have hd := (nf_sorted A).names.nodup; have h := ren_fold (A := A) (fr := fr) (to := to) ((sortedL A).filter fun a => isNm s a.1) [] (fun a ha => by
    obtain ⟨q1, q2⟩ := List.mem_filter.1 (show a ∈ (sortedL A).filter (fun a => isNm s a.1) from ha); exact ⟨q1, isNm_name q2⟩) (by simpa using hd.sublist (List.filter_sublist.map _)) A (by simp) m v
  rw [h]; simp only [List.nil_append]; have key : ∀ u, HasL A m u → (m ∈ ((sortedL A).filter fun a => isNm s a.1).map (·.1) ↔ isNm s m = true) := fun u hu => by
    simp only [List.mem_map, List.mem_filter]; constructor
    · rintro ⟨a, ⟨_, q⟩, rfl⟩; exact q
    · intro q; obtain ⟨a, ha, rfl, _⟩ := (sorted_has A m u).2 hu; exact ⟨a, ⟨ha, q⟩, rfl⟩
  constructor
  · rintro (⟨q1, q2⟩ | ⟨q1, u, q2, q3⟩)
    · exact .inl ⟨by rw [key v q2] at q1; simpa using q1, q2⟩
    · exact .inr ⟨(key u q2).1 q1, u, q2, q3⟩
  · rintro (⟨q1, q2⟩ | ⟨q1, u, q2, q3⟩)
    · exact .inl ⟨by rw [key v q2, q1]; simp, q2⟩
    · exact .inr ⟨(key u q2).2 q1, u, q2, q3⟩
def deepU (R : List Str) (fr to : Str) : Bool := R.any fun r => underU r fr && (decide ((rebaseU r fr to).2 ≠ 0) || decide (256 < (rebaseU r fr to).1.length))
theorem rebased {x fr to : Str} (hu : underU x fr = true) (h2 : to ≠ []) (h4 : validU to = true) (h0 : (rebaseU x fr to).2 = 0) (h256 : (rebaseU x fr to).1.length ≤ 256) :
    cleanB (rebaseU x fr to).1 = true ∧ refOf (rebaseU x fr to).1 = some (rebaseU x fr to).1 := by
  obtain ⟨k, m, e1, e2⟩ := under_parts hu; obtain ⟨n, e3⟩ := valid_norm.1 h4; have hn : n ≠ [] := fun q => by
    subst q; have := (normU_inv e3).2.2.1; simp [joinB] at this; exact h2 this
  obtain ⟨r1, r2⟩ := rebase_norm e1 e2 e3; by_cases h8 : k.length + n.length ≤ 8
  · obtain ⟨t, ht, hnt⟩ := r1 h8; rw [ht] at h256 ⊢; have hne : k ++ n ≠ [] := (by simp [hn]); have hc := norm_clean hnt hne h256; exact ⟨hc, ref_norm (valid_norm.2 ⟨_, hnt⟩) (clean_spec hc).1⟩
  · rw [r2 (by omega)] at h0; simp at h0
theorem kept_refs {A : List Att} (s : Sch) {fr to : Str} (h1 : fr ≠ []) (h2 : to ≠ []) (h3 : validU fr = true) (h4 : validU to = true) (hd : deepU (refsU s A) fr to = false) {y : Str} (hy : y ∈ refsU s (applyU A (renamedU s A fr to))) :
    ∃ x ∈ refsU s A, y = renU fr to x := by
  obtain ⟨m, v, hh, hm, hr⟩ := (mem_refsU s _ y).1 hy; rcases (ren_has s h1 h2 h3 h4 m v).1 hh with ⟨q, _⟩ | ⟨_, u, hu, rfl⟩
  · rw [hm] at q; cases q
  · unfold renV at hr; cases hn : refOf u with
    | none => rw [hn] at hr; simp only at hr; rw [hn] at hr; cases hr
    | some n =>
      rw [hn] at hr; simp only at hr; have hx : n ∈ refsU s A := (mem_refsU s A n).2 ⟨m, u, hu, hm, hn⟩; have hdn := List.any_eq_false.1 hd n hx; refine ⟨n, hx, ?_⟩; unfold renU; by_cases hun : underU n fr = true
      · simp only [hun, Bool.true_and, Bool.not_eq_true, Bool.or_eq_false_iff, decide_eq_false_iff_not, ne_eq, Decidable.not_not, Nat.not_lt] at hdn; obtain ⟨q1, q2⟩ := rebased hun h2 h4 hdn.1 hdn.2; rw [if_pos ⟨hun, hdn.1, q1⟩] at hr; simp only at hr; rw [q2] at hr; simp only [Option.some.injEq] at hr; rw [if_pos hun, hr]
      · rw [if_neg (fun q => hun q.1)] at hr; simp only at hr; rw [hn] at hr; simp only [Option.some.injEq] at hr; rw [if_neg hun, hr]
end Go.Proofs.Tz
namespace Go.Proofs.Tz
open Go.Vw
theorem fits_str {d : D} (h : Sh.Fits .str d) : ∃ s : Str, d = .str s := by
  simp only [Sh.Fits] at h; obtain ⟨s, rfl, _⟩ := h; exact ⟨s, rfl⟩
theorem fits_list {α : Type} {s : Sh} (g : α → D) (hs : ∀ d, Sh.Fits s d → ∃ a, d = g a) {d : D} (h : Sh.Fits (.sl s) d) : ∃ l : List α, d = .sl (l.map g) := by
  simp only [Sh.Fits] at h; obtain ⟨ds, rfl, _, h⟩ := h; have : ∀ ds : List D, (∀ x ∈ ds, Sh.Fits s x) → ∃ l : List α, ds = l.map g := by
    intro ds
    induction ds with
    | nil => intro _; exact ⟨[], rfl⟩
    | cons x ds ih =>
      intro h; obtain ⟨a, rfl⟩ := hs x (h x (by simp)); obtain ⟨l, rfl⟩ := ih fun y hy => h y (by simp [hy])
      exact ⟨a :: l, rfl⟩
  obtain ⟨l, rfl⟩ := this ds h; exact ⟨l, rfl⟩
theorem fits_strs {d : D} (h : Sh.Fits (.sl .str) d) : ∃ l : List Str, d = strs l := fits_list _ (fun _ h => fits_str h) h
theorem fits_att {d : D} (h : Sh.Fits (.agg [.str, .sl .str]) d) : ∃ a : Att, d = att a := by
  simp only [Sh.Fits, Sh.FitsL] at h; obtain ⟨ds, rfl, x, xs, rfl, ⟨s, rfl, _⟩, y, ys, rfl, hy, rfl⟩ := h; obtain ⟨l, rfl⟩ := fits_strs (d := y) (by simp only [Sh.Fits]; exact hy); exact ⟨(s, l), rfl⟩
theorem fits_atts {d : D} (h : Sh.Fits (.sl (.agg [.str, .sl .str])) d) : ∃ l : List Att, d = atts l := fits_list _ (fun _ h => fits_att h) h
end Go.Proofs.Tz
namespace Go.Proofs.Tz
open Go.Vw Go.RowKit Go.Proofs
theorem fits_ty {d : D} (h : Sh.Fits (.agg [.str, .int .i64, .bool]) d) : ∃ x : Ty, d = tyD x := by
  simp only [Sh.Fits, Sh.FitsL] at h; obtain ⟨ds, rfl, x, xs, rfl, ⟨s, rfl, _⟩, y, ys, rfl, ⟨i, rfl, _⟩, z, zs, rfl, ⟨b, rfl⟩, rfl⟩ := h; exact ⟨(s, i, b), rfl⟩
theorem fits_cl {d : D} (h : Sh.Fits (.agg [.str, .str, .sl (.str), .sl (.str)]) d) : ∃ x : Cl, d = clD x := by
  simp only [Sh.Fits, Sh.FitsL] at h; obtain ⟨ds, rfl, x, xs, rfl, ⟨s, rfl, _⟩, y, ys, rfl, ⟨t, rfl, _⟩, z, zs, rfl, hz, q, qs, rfl, hq, rfl⟩ := h; obtain ⟨l, rfl⟩ := fits_strs (by simpa only [Sh.Fits, Sh.FitsL] using hz); obtain ⟨m, rfl⟩ := fits_strs (by simpa only [Sh.Fits, Sh.FitsL] using hq); exact ⟨(s, t, l, m), rfl⟩
theorem fits_sch {d : D} (h : Sh.Fits (.agg [.sl (.agg [.str, .int .i64, .bool]), .sl (.agg [.str, .str, .sl (.str), .sl (.str)])]) d) : ∃ x : Sch, d = schD x := by
  have h' : ∃ ds, d = .agg ds ∧ ∃ x xs, ds = x :: xs ∧ Sh.Fits (.sl (.agg [.str, .int .i64, .bool])) x ∧ ∃ y ys, xs = y :: ys ∧ Sh.Fits (.sl (.agg [.str, .str, .sl (.str), .sl (.str)])) y ∧ ys = [] := by
    rw [Sh.Fits] at h; obtain ⟨ds, rfl, h⟩ := h; rw [Sh.FitsL] at h; obtain ⟨x, xs, rfl, h1, h⟩ := h; rw [Sh.FitsL] at h; obtain ⟨y, ys, rfl, h2, h⟩ := h; rw [Sh.FitsL] at h; exact ⟨_, rfl, x, _, rfl, h1, y, _, rfl, h2, h⟩
  obtain ⟨ds, rfl, x, xs, rfl, h1, y, ys, rfl, h2, rfl⟩ := h'; obtain ⟨T, rfl⟩ := fits_list tyD (fun _ h => fits_ty h) h1; obtain ⟨C, rfl⟩ := fits_list clD (fun _ h => fits_cl h) h2; exact ⟨(T, C), rfl⟩
theorem fits_ent {d : D} (h : Sh.Fits (.agg [.str, .sl (.agg [.str, .sl (.str)])]) d) : ∃ x : Ent, d = entD x := by
  simp only [Sh.Fits, Sh.FitsL] at h; obtain ⟨ds, rfl, x, xs, rfl, ⟨s, rfl, _⟩, y, ys, rfl, hy, rfl⟩ := h; obtain ⟨l, rfl⟩ := fits_atts (by simpa only [Sh.Fits, Sh.FitsL] using hy); exact ⟨(s, l), rfl⟩
theorem fits_ents {d : D} (h : Sh.Fits (.sl (.agg [.str, .sl (.agg [.str, .sl (.str)])])) d) : ∃ l : List Ent, d = entsD l := fits_list _ (fun _ h => fits_ent h) h
theorem lim_strs {R : Nat} {l : List Str} (h : D.lim R (strs l)) : l.length ≤ R ∧ ∀ s ∈ l, List.length s ≤ R := by
  simp only [strs, D.lim, D.lims_mem, List.length_map, List.mem_map] at h; exact ⟨h.1, fun s hs => by simpa [D.lim] using h.2 _ ⟨s, hs, rfl⟩⟩
theorem fitSch_of {s : Sch} (h : D.lim 140737488351232 (schD s)) : FitSch s := by
  obtain ⟨T, C⟩ := s; simp only [schD, D.lim, D.lims] at h; obtain ⟨⟨h1, h2⟩, ⟨h3, h4⟩, _⟩ := h; rw [D.lims_mem] at h2 h4; simp only [List.length_map] at h1 h3; refine ⟨h1, h3, fun t ht => ?_, fun c hc => ?_⟩
  · have := h2 _ (List.mem_map.2 ⟨t, ht, rfl⟩); simp only [tyD, D.lim, D.lims] at this; exact this.1
  · have := h4 _ (List.mem_map.2 ⟨c, hc, rfl⟩); simp only [clD, D.lim, D.lims] at this; obtain ⟨q1, q2, q3, q4, _⟩ := this; exact ⟨q1, q2, lim_strs q3, lim_strs q4⟩
end Go.Proofs.Tz
namespace Go.Proofs.Tz
open Go.Vw Go.RowKit Go.Proofs Go.Sort
theorem entB_bq {e : Ent} (h : entB e = true) : BQ 0 e.2 ∧ total e.2 ≤ 64 ∧ (∀ a ∈ e.2, List.length a.1 ≤ 300 ∧ ∀ v ∈ a.2, List.length v ≤ 300) := by
  unfold entB at h; simp only [Bool.and_eq_true, decide_eq_true_eq, List.all_eq_true] at h; obtain ⟨h1, h2, h3⟩ := h; have hv : ∀ a ∈ e.2, List.length a.1 ≤ 300 ∧ a.2.length ≤ 8 ∧ ∀ v ∈ a.2, List.length v ≤ 300 := fun a ha => by
    have := h3 a ha; simp only [attB, shB, Bool.and_eq_true, decide_eq_true_eq, List.all_eq_true] at this; exact this
  have htot : ∀ l : List Att, (∀ a ∈ l, a.2.length ≤ 8) → total l ≤ l.length * 8 := by
    intro l
    induction l with
    | nil => intro _; simp [total]
    | cons a l ih =>
      intro h; have h1 := h a (by simp); have h2 := ih (fun b hb => h b (by simp [hb])); have : total (a :: l) = a.2.length + total l := (by simp [total]); simp only [List.length_cons]; omega
  have := htot e.2 (fun a ha => (hv a ha).2.1); exact ⟨⟨by omega, by omega, fun a ha => by have := (hv a ha).1; omega⟩, by omega, fun a ha => ⟨(hv a ha).1, (hv a ha).2.2⟩⟩
def treeF (E : List Ent) (e : Ent) : List Ent := (addE E e.1 e.2).1
def treeK (l : List Ent) (k : Nat) : List Ent := (l.take k).foldl treeF Y1
def treeU (l : List Ent) : List Ent := l.foldl treeF Y1
theorem treeK_succ {l : List Ent} {k : Nat} (h : k < l.length) : treeK l (k + 1) = treeF (treeK l k) l[k] := by
  unfold treeK; rw [take_s h, List.foldl_append]; rfl
theorem treeK_all (l : List Ent) : treeK l l.length = treeU l := by unfold treeK treeU; rw [List.take_length]
theorem addE_err {E : List Ent} {n : Str} {a : List Att} (h : (addE E n a).2 ≠ 0) : (addE E n a).1 = E := by
  unfold addE at h ⊢; split
  · rfl
  split
  · rfl
  split
  · rfl
  split
  · rfl
  rename_i h1 h2 h3 h4
  rw [if_neg h1, if_neg h2, if_neg h3, if_neg h4] at h; exact absurd rfl h
theorem treeY1 : TI Y1 ∧ FE Y1 ∧ FR Y1 := by
  have := new_ok (R := [yO]) (by rw [y1]); rw [y1] at this; exact ⟨this.1, this.2.1, fun e he => by
    simp only [Y1, List.mem_singleton] at he; subst he; exact fit_at0⟩
def FitEs (l : List Ent) : Prop := ∀ e ∈ l, List.length e.1 < 900000 ∧ FitR e.2
theorem treeF_ok {E : List Ent} (h : TI E ∧ FE E ∧ FR E) {e : Ent} (he : FitR e.2) : TI (treeF E e) ∧ FE (treeF E e) ∧ FR (treeF E e) :=
  ⟨h.1.add e.1 e.2, h.2.1.add e.1 he.1, h.2.2.add e.1 he⟩
theorem treeK_ok {l : List Ent} (hl : FitEs l) : ∀ k, k ≤ l.length → TI (treeK l k) ∧ FE (treeK l k) ∧ FR (treeK l k)
  | 0, _ => by simpa [treeK] using treeY1
  | k + 1, hk => by
    rw [treeK_succ (by omega)]; exact treeF_ok (treeK_ok hl k (by omega)) (hl _ (gmm _)).2
theorem treeU_ok {l : List Ent} (hl : FitEs l) : TI (treeU l) ∧ FE (treeU l) ∧ FR (treeU l) := by
  rw [← treeK_all]; exact treeK_ok hl _ (Nat.le_refl _)
def TqI (l : List Ent) (k : Nat) (τ : St) : Prop := ∃ p u X q, τ 0 = .d (entsD l) ∧ τ 4 = .d (.raw (va p)) ∧ τ 6 = .d (.raw (va q)) ∧ τ 8 = .d (.int .i64 k) ∧
  τ 1000000 = .hb (va p) 125 (.agg [.raw (.map (some u))]) ∧ τ 1000001 = .hm (.map (some u)) 9 (mapE (treeK l k)) X ∧ τ 1000002 = .hb (va q) 140 (.agg [.bool true, strs [yO], entsD (treeK l k)])
theorem trees_fn (l : List Ent) (hl : FitEs l) (hlen : l.length < 100000) : CtrG prog 19 [.d (entsD l)] [] (fun r hs' => ∃ p u q X, r = .tup [.d (.raw (va p)), .d (.raw (va q))] ∧ hs' = tr p u (treeU l) X ++ rtr q (strs [yO]) (entsD (treeU l))) := by
  refine fn_of_vwpGN (rs := [.tmp 2, .tmp 3]) (fun i => i == 5000011 || i == 5000016 || i == 5000033 || i == 5000040) (by kernel_rfl) func19 (by kernel_rfl) rfl rfl (by simp) (nbl rfl) (by kernel_rfl) rfl ?_; have c1 := tnew_fn [yO] (by simp [yO]); have c2 := rnew_fn [yO] (by simp [yO]); rw [y1] at c1 c2; have hY : treeK l 0 = Y1 := (by simp [treeK]); rw [← hY] at c1 c2; simp only [strs, List.map_cons, List.map_nil, yO] at c1 c2; simp -implicitDefEqProofs [initG, entsD]; (repeat refine ai (by first | omega | rfl) ?_); refine givB [] 1000000 c1 (by simp) rfl (by simp) ?_; rintro r hs' (⟨h, _⟩ | ⟨_, p, u, rfl, rfl⟩)
  · exact absurd rfl h
  simp -implicitDefEqProofs [initG, takeH, putH, tr]; (repeat refine ai (by first | omega | rfl) ?_); refine givB [] 1000002 c2 (by simp) rfl (by simp) ?_; rintro r hs' (⟨h, _⟩ | ⟨_, q, rfl, rfl⟩)
  · exact absurd rfl h
  simp -implicitDefEqProofs [initG, takeH, putH, rtr]; refine loopN l.length (TqI l) ⟨p, u, none, q, by simp [entsD, initG], by simp, by simp, by simp, by simp, by simp, by simp [strs, yO]⟩ ?_; clear c1 c2 hY p u q; rintro k τ hk ⟨p, u, X, q, g0, g4, g6, g8, gA, gB, gC⟩; obtain ⟨hT, hF, hR⟩ := treeK_ok hl k hk; have hwR : width (strs [yO]) = 1 := rfl; by_cases hlt : k < l.length
  · have hlt' : (k : Int) < l.length := (by omega); have hN := treeK_succ hlt; obtain ⟨h1, h2⟩ := hl _ (gmm hlt); have hfew := hT.few; have c3 := fun q => radd_fn q (strs [yO]) hwR (treeK l k) (by omega) (key_len hT) l[k].1 l[k].2 h1 h2.1
    have c4 := fun p u X => tadd_fn p u (treeK l k) X l[k].1 l[k].2 h1 h2.1
    have hee := @addE_err (treeK l k) l[k].1 l[k].2; unfold treeF at hN; generalize hx : l[k] = e at *; obtain ⟨n, a⟩ := e; try simp only at hN hee c3 c4
    generalize treeK l k = E1 at *; generalize hE2 : treeK l (k + 1) = E2 at *; generalize addE E1 n a = V at *; obtain ⟨E3, er⟩ := V; try simp only at hN hee c3 c4
    subst hN; simp only [entD, atts] at c3 c4; by_cases h0 : er = 0
    · subst h0; simp -implicitDefEqProofs [g0, g4, g6, g8, gA, gB, gC, hlt, hlt', hx, entsD, entD, atts]; refine givB [1000002] 1000002 (c3 q) (by simp [gC, rtr, entsD, entD, atts]) rfl (by simp) ?_; rintro r hs' ⟨rfl, rfl⟩; simp -implicitDefEqProofs [g0, g4, g6, g8, gA, gB, gC, hlt, hlt', hx, entsD, entD, atts, takeH, putH, rtr]; refine givB [1000000, 1000001] 1000000 (c4 p u X) (by simp [gA, gB, tr]) rfl (by simp) ?_; rintro r hs' ⟨rfl, X1, rfl⟩; simp -implicitDefEqProofs [g0, g4, g6, g8, gA, gB, gC, entsD, entD, atts, takeH, putH, tr]; (repeat refine ai (by first | omega | rfl) ?_); exact again hlt ⟨p, u, X1, q, by simp [g0, entsD, entD, atts], by simp [g4], by simp [g6], by simp, by simp, by simp [hE2], by simp [hE2, entsD, entD, atts]⟩
    · have he := hee h0; subst he; simp -implicitDefEqProofs [g0, g4, g6, g8, gA, gB, gC, hlt, hlt', hx, entsD, entD, atts]; refine givB [1000002] 1000002 (c3 q) (by simp [gC, rtr, entsD, entD, atts]) rfl (by simp) ?_; rintro r hs' ⟨rfl, rfl⟩; simp -implicitDefEqProofs [g0, g4, g6, g8, gA, gB, gC, hlt, hlt', hx, entsD, entD, atts, takeH, putH, rtr, h0]; (repeat refine ai (by first | omega | rfl) ?_); exact again hlt ⟨p, u, X, q, by simp [g0, entsD, entD, atts], by simp [g4], by simp [g6], by simp, by simp [gA], by simp [hE2, gB], by simp [hE2, entsD, entD, atts]⟩
  · have hlt' : ¬ (k : Int) < l.length := (by omega); obtain rfl : k = l.length := by omega
    rw [treeK_all] at gB gC; simp -implicitDefEqProofs [g0, g4, g6, g8, gA, gB, gC, hlt', entsD]; exact ⟨[.d (.raw (va p)), .d (.raw (va q))], [1000000, 1000001, 1000002], by simp, by simp [gA, gB, gC, isH], by simp [resDs, resD], p, u, q, rfl, X, by simp [gA, gB, gC, tr, rtr, entsD]⟩
theorem lgtB_all {s : Sch} {l : List Ent} (h : lgtB s l = true) : (∀ e ∈ l, entB e = true) ∧ l.length ≤ 12 := by
  unfold lgtB at h; simp only [Bool.and_eq_true, List.all_eq_true, decide_eq_true_eq] at h; obtain ⟨h1, h2, h3, _⟩ := h; rw [ttl h3] at h1; exact ⟨h1, h3⟩
theorem lgtB_fit {s : Sch} {l : List Ent} (h : lgtB s l = true) : FitEs l := fun e he => by
  obtain ⟨h1, h2⟩ := entB_fit ((lgtB_all h).1 e he); exact ⟨by omega, h1⟩
def newA (s : Sch) (fr to : Str) (A : List Att) : List Att := applyU A (renamedU s A fr to)
theorem newA_nf (s : Sch) (fr to : Str) (A : List Att) : sortedL (newA s fr to A) = newA s fr to A := sorted_idem _
def putF (s : Sch) (fr to : Str) (cur : List Ent) (e : Ent) : List Ent := (putE cur e.1 (newA s fr to e.2)).1
def putK (s : Sch) (fr to : Str) (E : List Ent) (k : Nat) : List Ent := (E.take k).foldl (putF s fr to) E
theorem putK_succ {s : Sch} {fr to : Str} {E : List Ent} {k : Nat} (h : k < E.length) : putK s fr to E (k + 1) = putF s fr to (putK s fr to E k) E[k] := by
  unfold putK; rw [take_s h, List.foldl_append]; rfl
structure PK (s : Sch) (fr to : Str) (E : List Ent) (k : Nat) (cur : List Ent) : Prop where
  ti : TI cur
  keys : ∀ x, x ∈ keysE cur ↔ x ∈ keysE E
  mem : ∀ e ∈ cur, ∃ A, (e.1, A) ∈ E ∧ ((e.1 ∈ keysE (E.take k) ∧ e.2 = newA s fr to A) ∨ (e.1 ∉ keysE (E.take k) ∧ e.2 = A))
theorem PK.start {s : Sch} {fr to : Str} {E : List Ent} (h : TI E) : PK s fr to E 0 (putK s fr to E 0) where
  ti := by simpa [putK] using h
  keys := fun x => by simp [putK]
  mem := fun e he => ⟨e.2, by simpa [putK] using he, .inr ⟨by simp [keysE], rfl⟩⟩
theorem PK.step {s : Sch} {fr to : Str} {E : List Ent} {k : Nat} (hk : k < E.length) (h : PK s fr to E k (putK s fr to E k)) : PK s fr to E (k + 1) (putK s fr to E (k + 1)) ∧ (putE (putK s fr to E k) E[k].1 (newA s fr to E[k].2)).2 = 0 := by
  have hin : E[k] ∈ E := gmm hk; have hkey : E[k].1 ∈ keysE (putK s fr to E k) := (h.keys _).2 (List.mem_map.2 ⟨_, hin, rfl⟩); have hhas := hasE_iff.2 hkey; have hE : putE (putK s fr to E k) E[k].1 (newA s fr to E[k].2) = (insE (E[k].1, sortedL (newA s fr to E[k].2)) (delE (putK s fr to E k) E[k].1), 0) := by
    unfold putE; rw [hhas]; simp
  have hti := h.ti.put E[k].1 (newA s fr to E[k].2); rw [putK_succ hk]; unfold putF; rw [hE] at hti ⊢; refine ⟨⟨hti, fun x => ?_, fun e he => ?_⟩, rfl⟩
  · show x ∈ keysE (insE _ _) ↔ _
    rw [insE_keys, delE_keys, h.keys]; constructor
    · rintro (rfl | ⟨q, _⟩)
      · exact (h.keys _).1 hkey
      · exact q
    · intro q; by_cases e : x = E[k].1
      · exact .inl e
      · exact .inr ⟨q, e⟩
  · have hmk : ∀ y, y ∈ keysE (E.take (k + 1)) ↔ y ∈ keysE (E.take k) ∨ y = E[k].1 := fun y => by
      unfold keysE; rw [take_s hk, List.map_append, List.mem_append]; simp
    rcases insE_mem.1 he with rfl | he
    · exact ⟨E[k].2, hin, .inl ⟨(hmk _).2 (.inr rfl), newA_nf _ _ _ _⟩⟩
    · have he1 : e ∈ putK s fr to E k ∧ e.1 ≠ E[k].1 := by
        simp only [delE, List.mem_filter, Bool.not_eq_true', decide_eq_false_iff_not] at he; exact he
      obtain ⟨A, hA, hB⟩ := h.mem e he1.1; refine ⟨A, hA, ?_⟩; rw [hmk]; rcases hB with ⟨q1, q2⟩ | ⟨q1, q2⟩
      · exact .inl ⟨.inl q1, q2⟩
      · exact .inr ⟨fun q => q.elim q1 he1.2, q2⟩
theorem PK.all {s : Sch} {fr to : Str} {E : List Ent} (h : TI E) : ∀ k, k ≤ E.length → PK s fr to E k (putK s fr to E k)
  | 0, _ => .start h
  | k + 1, hk => (PK.step (by omega) (PK.all h k (by omega))).1
theorem kept_law {s : Sch} {fr to : Str} {E : List Ent} (h : MV E fr to) (h3 : validU fr = true) (h4 : validU to = true) (hd : ∀ e ∈ movedE E fr to, deepU (refsU s e.2) fr to = false)
    {pr : Pair} (hp : pr ∈ brokenU s (putK s fr to (movedE E fr to) (movedE E fr to).length)) : ∃ old ∈ brokenU s E, renU fr to old.2 = pr.2 := by
  have hP := PK.all (s := s) (fr := fr) (to := to) h.moved _ (Nat.le_refl (movedE E fr to).length); generalize putK s fr to (movedE E fr to) (movedE E fr to).length = cur at *; unfold brokenU at hp; obtain ⟨e, he, hp⟩ := List.mem_flatMap.1 hp; obtain ⟨y, hy, rfl⟩ := List.mem_map.1 hp; obtain ⟨hy1, hy2⟩ := List.mem_filter.1 hy; obtain ⟨A, hA, hB⟩ := hP.mem e he; rw [List.take_length] at hB; have hkey : e.1 ∈ keysE (movedE E fr to) := List.mem_map.2 ⟨_, hA, rfl⟩; rcases hB with ⟨_, hB⟩ | ⟨q, _⟩
  case inr => exact absurd hkey q
  rw [hB] at hy1; have hto : to ≠ [] := fun q => by have := h.tgt; subst q; simp [properU] at this
  obtain ⟨x, hx, rfl⟩ := kept_refs s h.frn hto h3 h4 (hd _ hA) hy1; obtain ⟨e0, he0, heq⟩ := List.mem_map.1 (h.perm.mem_iff.1 hA); have hA0 : e0.2 = A := by have := congrArg Prod.snd heq; exact this
  refine ⟨(e0.1, x), List.mem_flatMap.2 ⟨e0, he0, List.mem_map.2 ⟨x, List.mem_filter.2 ⟨by rw [hA0]; exact hx, ?_⟩, rfl⟩⟩, rfl⟩; cases hh : hasE E x with
  | false => rfl
  | true =>
    have : renU fr to x ∈ keysE (movedE E fr to) := h.keys.2 ⟨x, hasE_iff.1 hh, rfl⟩; have h2 : hasE cur (renU fr to x) = true := hasE_iff.2 ((hP.keys _).2 this); rw [h2] at hy2; cases hy2
def FB (E : List Ent) : Prop := ∀ e ∈ E, e.2.length ≤ 8 ∧ total e.2 ≤ 64 ∧ ∀ a ∈ e.2, List.length a.1 ≤ 300 ∧ ∀ v ∈ a.2, List.length v ≤ 300
theorem fb_sorted {A : List Att} (h : A.length ≤ 8 ∧ total A ≤ 64 ∧ ∀ a ∈ A, List.length a.1 ≤ 300 ∧ ∀ v ∈ a.2, List.length v ≤ 300) : (sortedL A).length ≤ 8 ∧ total (sortedL A) ≤ 64 ∧ ∀ a ∈ sortedL A, List.length a.1 ≤ 300 ∧ ∀ v ∈ a.2, List.length v ≤ 300 := by
  obtain ⟨h1, h2, h3⟩ := h; refine ⟨Nat.le_trans (sorted_len A) h1, Nat.le_trans (total_sorted A) h2, fun a ha => ⟨?_, fun v hv => ?_⟩⟩
  · obtain ⟨b, hb, _, e⟩ := sorted_name ha; rw [← e, lower_len]; exact (h3 b hb).1
  · obtain ⟨b, hb, _, hvb⟩ := sorted_val ha hv; exact (h3 b hb).2 v hvb
theorem FB.add {E : List Ent} (h : FB E) {e : Ent} (he : entB e = true) : FB (treeF E e) := by
  unfold treeF addE; split
  · exact h
  split
  · exact h
  split
  · exact h
  split
  · exact h
  intro x hx; rcases insE_mem.1 hx with rfl | hx
  · obtain ⟨b1, b2, b3⟩ := entB_bq he; have hl : e.2.length ≤ 8 := by
      unfold entB at he; simp only [Bool.and_eq_true, decide_eq_true_eq] at he; exact he.2.1
    exact fb_sorted ⟨hl, b2, b3⟩
  · exact h x hx
theorem FB.tree {l : List Ent} (h : ∀ e ∈ l, entB e = true) : FB (treeU l) := by
  have key : ∀ (r E : List Ent), FB E → (∀ e ∈ r, entB e = true) → FB (r.foldl treeF E) := by
    intro r
    induction r with
    | nil => intro E h _; exact h
    | cons x r ih => intro E h hr; exact ih _ (h.add (hr x (by simp))) (fun e he => hr e (by simp [he]))
  exact key l Y1 (fun e he => by
    simp only [Y1, List.mem_singleton] at he; subst he; exact ⟨by simp, by simp [total], by simp⟩) h
theorem FB.moved {E : List Ent} {fr to : Str} (h : FB E) (hm : MV E fr to) : FB (movedE E fr to) := fun e he => by
  obtain ⟨e0, he0, heq⟩ := List.mem_map.1 (hm.perm.mem_iff.1 he); have := congrArg Prod.snd heq; simp only at this; rw [← this]; exact h e0 he0
theorem fb_bq {A : List Att} (h : A.length ≤ 8 ∧ total A ≤ 64 ∧ ∀ a ∈ A, List.length a.1 ≤ 300 ∧ ∀ v ∈ a.2, List.length v ≤ 300) : BQ 0 A := ⟨by omega, by omega, fun a ha => by have := (h.2.2 a ha).1; omega⟩
theorem fb_fitR {A : List Att} (h : A.length ≤ 8 ∧ total A ≤ 64 ∧ ∀ a ∈ A, List.length a.1 ≤ 300 ∧ ∀ v ∈ a.2, List.length v ≤ 300) : FitR A := ⟨(fb_bq h).fit (by omega), fun a ha v hv => by have := (h.2.2 a ha).2 v hv; omega⟩
theorem ren_fitG {A : List Att} (h : A.length ≤ 8 ∧ total A ≤ 64 ∧ ∀ a ∈ A, List.length a.1 ≤ 300 ∧ ∀ v ∈ a.2, List.length v ≤ 300) (s : Sch) (fr to : Str) : FitG (renamedU s A fr to) := by
  obtain ⟨h1, h2, h3⟩ := fb_sorted h; unfold renamedU; split
  · exact ⟨by simp, by simp, by simp⟩
  have key : ∀ m, m ∈ ((sortedL A).filter fun a => isNm s a.1).filterMap (renA fr to) → ∃ a ∈ sortedL A, m.2.1 = a.1 ∧ m.2.2.length ≤ a.2.length := fun m hm => by
    obtain ⟨a, ha, hfa⟩ := List.mem_filterMap.1 hm; refine ⟨a, (List.mem_filter.1 ha).1, ?_⟩; unfold renA at hfa; split at hfa
    · simp only [Option.some.injEq] at hfa; subst hfa; have := insAll_len (a.2.map fun v => (renV fr to v).1) []; simp only [List.length_nil, List.length_map, Nat.zero_add] at this; exact ⟨rfl, this⟩
    · cases hfa
  refine ⟨?_, fun m hm => ?_, fun m hm => ?_⟩
  · have h5 := List.length_filterMap_le (renA fr to) ((sortedL A).filter fun a => isNm s a.1); have h6 := List.length_filter_le (fun a : Att => isNm s a.1) (sortedL A); omega
  · obtain ⟨a, ha, e1, _⟩ := key m hm; have := (h3 a ha).1; rw [e1]; omega
  · obtain ⟨a, ha, _, e1⟩ := key m hm; have := total_memG ha; omega
theorem newA_fitR {A : List Att} (h : A.length ≤ 8 ∧ total A ≤ 64 ∧ ∀ a ∈ A, List.length a.1 ≤ 300 ∧ ∀ v ∈ a.2, List.length v ≤ 300) (s : Sch) {fr to : Str} (h1 : fr ≠ []) (h2 : to ≠ []) (h3 : validU fr = true) (h4 : validU to = true) : FitR (newA s fr to A) := by
  have hG := ren_fitG h s fr to; have hB := apK_bq (fb_bq h) hG _ (Nat.le_refl _); unfold apK at hB; rw [List.take_length] at hB; have hl := hG.len; refine ⟨hB.sorted.fit (by omega), fun a ha v hva => ?_⟩; have hh : HasL (newA s fr to A) a.1 v := by
    unfold newA applyU at ha ⊢; rw [hasL_sorted]; exact (has_of ha v).2 hva
  have hval : ∀ m u, HasL A m u → List.length u ≤ 300 := fun m u hu => by
    obtain ⟨b, hb, _, hvb⟩ := hu; exact (h.2.2 b hb).2 u hvb
  rcases (ren_has s h1 h2 h3 h4 a.1 v).1 hh with ⟨_, q⟩ | ⟨_, u, q, rfl⟩
  · have := hval _ _ q; omega
  · have := hval _ _ q; unfold renV; split
    · simp only; omega
    · split
      · have := rebase_len (by assumption) fr to; simp only; omega
      · simp only; omega
def DpI (R : List Str) (fr to : Str) (k : Nat) (τ : St) : Prop := τ 0 = .d (strs R) ∧ τ 1 = .d (.str fr) ∧ τ 2 = .d (.str to) ∧ τ 7 = .d (.int .i64 k) ∧ deepU (R.take k) fr to = false
theorem deep_fn (R : List Str) (fr to : Str) (hl : R.length < 900000) (hR : ∀ r ∈ R, List.length r < 900000) (hf : List.length fr < 900000) (ht : List.length to < 900000) : Ctr prog 39 [.d (strs R), .d (.str fr), .d (.str to)] (.d (.bool (deepU R fr to))) := by
  refine fv (fun _ => false) func39 (by kernel_rfl) rfl rfl rfl rfl rfl ?_; obtain ⟨B, hB⟩ : ∃ B, deepU R fr to = B := ⟨_, rfl⟩; rw [hB]; simp -implicitDefEqProofs [strs]; refine loopN R.length (DpI R fr to) ⟨by simp [strs], by simp, by simp, by simp, by simp [deepU]⟩ ?_; rintro k τ hk ⟨g0, g1, g2, g7, gA⟩; by_cases hlt : k < R.length
  · have hlt' : (k : Int) < R.length := (by omega); have hN := any_succ (p := fun r => underU r fr && (decide ((rebaseU r fr to).2 ≠ 0) || decide (256 < (rebaseU r fr to).1.length))) hlt; have hall : (underU R[k] fr && (decide ((rebaseU R[k] fr to).2 ≠ 0) || decide (256 < (rebaseU R[k] fr to).1.length))) = true → (R.any fun r => underU r fr && (decide ((rebaseU r fr to).2 ≠ 0) || decide (256 < (rebaseU r fr to).1.length))) = true := fun q => List.any_eq_true.2 ⟨R[k], gmm hlt, q⟩
    have hD : ∀ l, (l.any fun r => underU r fr && (decide ((rebaseU r fr to).2 ≠ 0) || decide (256 < (rebaseU r fr to).1.length))) = deepU l fr to := fun _ => rfl
    rw [hD, hD, gA, Bool.false_or] at hN; rw [hD, hB] at hall; have c1 := nunderR_fn R[k] fr (hR _ (gmm hlt)) hf; have c2 := nrebaseR_fn R[k] fr to (hR _ (gmm hlt)) hf ht; clear hD; generalize hx : R[k] = r at *; cases hu : underU r fr with
    | false =>
      rw [hu] at c1 hN; simp only [Bool.false_and] at hN; simp -implicitDefEqProofs [g0, g1, g2, g7, hlt, hlt', strs, hx]; refine callK c1 ?_; simp -implicitDefEqProofs [g0, g1, g2, g7]; (repeat refine ai (by omega) ?_); exact again hlt ⟨by simp [g0, strs], by simp [g1], by simp [g2], by simp, hN⟩
    | true =>
      rw [hu] at c1 hN; simp only [hu, Bool.true_and] at hN hall; generalize rebaseU r fr to = C at *; obtain ⟨t, e⟩ := C; simp only at hN hall c2; by_cases h0 : e = 0
      · by_cases h1 : 256 < t.length
        · have h1' : (256 : Int) < List.length t := (by omega); have := hall (by simp [h1]); subst this; simp -implicitDefEqProofs [g0, g1, g2, g7, hlt, hlt', strs, hx]; refine callK c1 ?_; simp -implicitDefEqProofs [g0, g1, g2, g7, hlt, hlt', strs, hx]; refine callK c2 ?_; simp -implicitDefEqProofs [h0, h1']
        · have h1' : ¬ (256 : Int) < List.length t := (by omega); simp only [h0, h1, ne_eq, not_true_eq_false, decide_false, Bool.or_self] at hN; simp -implicitDefEqProofs [g0, g1, g2, g7, hlt, hlt', strs, hx]; refine callK c1 ?_; simp -implicitDefEqProofs [g0, g1, g2, g7, hlt, hlt', strs, hx]; refine callK c2 ?_; simp -implicitDefEqProofs [g0, g1, g2, g7, h0, h1']; (repeat refine ai (by omega) ?_); exact again hlt ⟨by simp [g0, strs], by simp [g1], by simp [g2], by simp, hN⟩
      · have := hall (by simp [h0]); subst this; simp -implicitDefEqProofs [g0, g1, g2, g7, hlt, hlt', strs, hx]; refine callK c1 ?_; simp -implicitDefEqProofs [g0, g1, g2, g7, hlt, hlt', strs, hx]; refine callK c2 ?_; simp -implicitDefEqProofs [h0]
  · have hlt' : ¬ (k : Int) < R.length := (by omega); rw [ttl (by omega), hB] at gA; subst gA; simp -implicitDefEqProofs [g0, g1, g2, g7, hlt', strs]
theorem refs_short {s : Sch} {A : List Att} : ∀ r ∈ refsU s A, List.length r < 900000 := fun r hr => by
  obtain ⟨m, v, _, _, h⟩ := (mem_refsU s A r).1 hr; have := refOf_len h; omega
theorem broken_short {s : Sch} {E : List Ent} : ∀ p ∈ brokenU s E, List.length p.2 < 900000 := fun p hp => by
  obtain ⟨e, _, hp⟩ := List.mem_flatMap.1 hp; obtain ⟨n, hn, rfl⟩ := List.mem_map.1 hp; exact refs_short n (List.mem_filter.1 hn).1
def K8I (p u : Nat) (s : Sch) (fr to : Str) (O : List Pair) (E : List Ent) (i : Nat) (τ : St) : Prop := ∃ X, τ 2 = .d (.str fr) ∧ τ 3 = .d (.str to) ∧ τ 4 = .box (schD s) ∧ τ 9 = .d (.raw (va p)) ∧ τ 11 = .d (pairs O) ∧ τ 12 = .own true 28 (E.map entD) ∧ τ 13 = .d (.int .i64 i) ∧
  τ 1000000 = .hb (va p) 125 (.agg [.raw (.map (some u))]) ∧ τ 1000001 = .hm (.map (some u)) 9 (mapE (putK s fr to E i)) X ∧ ∀ j (h : j < E.length), j < i → deepU (refsU s E[j].2) fr to = false
def K8J (fr to : Str) (O N : List Pair) (i : Nat) (τ : St) : Prop := τ 2 = .d (.str fr) ∧ τ 3 = .d (.str to) ∧ τ 11 = .d (pairs O) ∧ τ 14 = .d (pairs N) ∧ τ 15 = .d (.int .i64 i)
def K8K (fr to : Str) (O N : List Pair) (i : Nat) (y : Str) (k : Nat) (τ : St) : Prop := τ 2 = .d (.str fr) ∧ τ 3 = .d (.str to) ∧ τ 11 = .d (pairs O) ∧ τ 14 = .d (pairs N) ∧ τ 15 = .d (.int .i64 i) ∧ τ 16 = .d (.bool ((O.take k).any fun o => decide (renU fr to o.2 = y))) ∧ τ 17 = .d (.int .i64 k)
theorem law8R_fn (s : Sch) (hs : FitSch s) (l : List Ent) (fr to : Str) : Ctr prog 8 [.d (schD s), .d (entsD l), .d (.str fr), .d (.str to)] (.d (.bool true)) := by
  refine fv (fun i => i == 5000041 || i == 5000048 || i == 5000052 || i == 5000056 || i == 5000094 || i == 5000097) func8 (by kernel_rfl) rfl rfl rfl rfl rfl ?_; have c1 := light_fn s l; have cA := awake_fn; have cS := rcheck_fn s hs; have hsd : schD s = .agg [.sl (s.1.map tyD), .sl (s.2.map clD)] := rfl; rw [hsd] at c1 cS ⊢; simp only [entsD] at c1; cases hL : lgtB s l with
  | false =>
    rw [hL] at c1; simp -implicitDefEqProofs [entsD]; refine callK c1 ?_; simp -implicitDefEqProofs; refine callK cA ?_; simp -implicitDefEqProofs
  | true =>
  rw [hL] at c1; by_cases h1 : List.length fr ≤ 300
  case neg =>
    have h1' : (300 : Int) < List.length fr := (by omega); simp -implicitDefEqProofs [entsD]; refine callK c1 ?_; simp -implicitDefEqProofs [h1']; refine callK cA ?_; simp -implicitDefEqProofs
  have h1' : ¬ (300 : Int) < List.length fr := (by omega); by_cases h2 : List.length to ≤ 300
  case neg =>
    have h2' : (300 : Int) < List.length to := (by omega); simp -implicitDefEqProofs [entsD]; refine callK c1 ?_; simp -implicitDefEqProofs [h1', h2']; refine callK cA ?_; simp -implicitDefEqProofs
  have h2' : ¬ (300 : Int) < List.length to := (by omega); by_cases h3 : schE s = 0
  case neg =>
    simp -implicitDefEqProofs [entsD]; refine callK c1 ?_; simp -implicitDefEqProofs [h1', h2']; refine callK cS ?_; simp -implicitDefEqProofs [h3]; refine callK cA ?_; simp -implicitDefEqProofs
  rw [h3] at cS; have hfit := lgtB_fit hL; have hlen := (lgtB_all hL).2; obtain ⟨hT, hF, hR⟩ := treeU_ok hfit; have hFB := FB.tree (lgtB_all hL).1; have c2 := trees_fn l hfit (by omega); have c3 := fun p u X => broken_fn p u (treeU l) X hT hF hR s hs
  have c4 := fun p u X => tmove_fn p u (treeU l) X hT fr to (by omega) (by omega)
  have hOl := brokenU_len (s := s) hT hR; have hOs := @broken_short s (treeU l); clear hfit h3; generalize treeU l = E at *; obtain ⟨OB, hOB⟩ : ∃ O, brokenU s E = O := ⟨_, rfl⟩; rw [hOB] at hOl hOs; simp only [hOB] at c3; rw [hsd] at c3; simp only [entsD, strs, pairs, List.map_cons, List.map_nil] at c2 c3; by_cases hm : obsE E fr to = 0
  case neg =>
    have hmv : moveE E fr to = (E, obsE E fr to) := by unfold moveE; rw [if_neg hm]
    simp only [hmv] at c4; simp -implicitDefEqProofs [entsD]; refine callK c1 ?_; simp -implicitDefEqProofs [h1', h2']; refine callK cS ?_; simp -implicitDefEqProofs; refine givB [] 1000000 c2 (by simp) rfl (by simp) ?_; rintro r hs' ⟨p, u, q, X, rfl, rfl⟩; simp -implicitDefEqProofs [takeH, putH, tr, rtr]; refine givB [1000000, 1000001] 1000000 (c3 p u X) (by simp [tr]) rfl (by simp) ?_; rintro r hs' ⟨rfl, X2, rfl⟩; simp -implicitDefEqProofs [takeH, putH, tr, rtr]; refine givB [1000000, 1000001] 1000000 (c4 p u X2) (by simp [tr]) rfl (by simp) ?_; rintro r hs' ⟨rfl, u', X3, rfl⟩; simp -implicitDefEqProofs [takeH, putH, tr, rtr, hm]; refine callK cA ?_; simp -implicitDefEqProofs
  have hMV := MV.of hT hm; have hmv : moveE E fr to = (movedE E fr to, 0) := by unfold moveE; rw [if_pos hm]
  simp only [hmv] at c4; have hvf : validU fr = true := by have := hMV.frp; unfold properU at this; simp only [Bool.and_eq_true] at this; exact this.2
  have hvt : validU to = true := by have := hMV.tgt; unfold properU at this; simp only [Bool.and_eq_true] at this; exact this.2
  have hto : to ≠ [] := fun q => by have := hMV.tgt; subst q; simp [properU] at this
  have hT2 := hMV.moved; have hFB2 := hFB.moved hMV; have hlaw := fun hd pr hp => kept_law (s := s) hMV hvf hvt hd (pr := pr) hp
  rw [hOB] at hlaw; have hfrn := hMV.frn; have hF2 : FE (movedE E fr to) := fun e he => (fb_fitR (hFB2 e he)).1
  have c5 := fun p u X => tsubtree_fn p u (movedE E fr to) X hT2 hF2 [] (by simp)
  simp only [sub_all] at c5; have hPA := fun k hk => PK.all (s := s) (fr := fr) (to := to) hT2 k hk
  have hPS := fun k hk => PK.step (s := s) (fr := fr) (to := to) (k := k) (E := movedE E fr to) hk
  clear hmv hMV hFB hF hR hT hm; generalize movedE E fr to = M at *; have hMfew := hT2.few; simp -implicitDefEqProofs [entsD]; refine callK c1 ?_; simp -implicitDefEqProofs [h1', h2']; refine callK cS ?_; simp -implicitDefEqProofs; refine givB [] 1000000 c2 (by simp) rfl (by simp) ?_; rintro r hs' ⟨p, u0, q, X, rfl, rfl⟩; simp -implicitDefEqProofs [takeH, putH, tr, rtr]; refine givB [1000000, 1000001] 1000000 (c3 p u0 X) (by simp [tr]) rfl (by simp) ?_; rintro r hs' ⟨rfl, X2, rfl⟩; simp -implicitDefEqProofs [takeH, putH, tr, rtr]; refine givB [1000000, 1000001] 1000000 (c4 p u0 X2) (by simp [tr]) rfl (by simp) ?_; rintro r hs' ⟨rfl, u, X3, rfl⟩; simp -implicitDefEqProofs [takeH, putH, tr, rtr]; refine givB [1000000, 1000001] 1000000 (c5 p u X3) (by simp [tr]) rfl (by simp) ?_; rintro r hs' ⟨rfl, X4, rfl⟩; simp -implicitDefEqProofs [takeH, putH, tr, rtr]; refine loopN M.length (K8I p u s fr to OB M) ⟨X4, by simp, by simp, by simp [hsd], by simp, by simp [pairs], by simp, by simp, by simp, by simp [putK], fun j h h' => by omega⟩ ?_; clear c1 c2 c3 c4 c5 cS X X2 X3 X4; rintro i τ hi ⟨X, g2, g3, g4, g9, g11, g12, g13, gA, gB, hdeep⟩; rw [hsd] at g4; simp only [pairs] at g11; by_cases hlt : i < M.length
  · have hlt' : (i : Int) < M.length := (by omega); have hin := gmm hlt; have hb := hFB2 _ hin; have hfr := fb_fitR hb; have d1 := refs_fn s M[i] hs hfr; have hrl := refsU_len s hfr; have d2 := deep_fn (refsU s M[i].2) fr to (by omega) refs_short (by omega) (by omega); have d3 := renamed_fn s hs M[i] hfr fr to (by omega) (by omega); have d4 := apply_fn M[i].2 (fb_bq hb) (renamedU s M[i].2 fr to) (ren_fitG hb s fr to); have hnA := newA_fitR hb s hfrn hto hvf hvt; have d5 := fun X => tput_fn p u (putK s fr to M i) X (hPA i hi).ti.ord M[i].1 (newA s fr to M[i].2) hnA.1
    obtain ⟨_, hput⟩ := hPS i hlt (hPA i hi); have hN := putK_succ (s := s) (fr := fr) (to := to) hlt; have hdp : ∀ (h : deepU (refsU s M[i].2) fr to = false), ∀ j (hj : j < M.length), j < i + 1 → deepU (refsU s M[j].2) fr to = false := fun h j hj hji => by
      by_cases e : j = i
      · subst e; exact h
      · exact hdeep j hj (by omega)
    unfold putF at hN; have hnew : applyU M[i].2 (renamedU s M[i].2 fr to) = newA s fr to M[i].2 := rfl; rw [hnew] at d4; generalize hx : M[i] = e at *; obtain ⟨nm, A⟩ := e; try simp only at d1 d2 d3 d4 d5 hput hN hdp
    generalize refsU s A = R at *; generalize renamedU s A fr to = MD at *; generalize newA s fr to A = A2 at *; rw [hsd] at d1 d3; simp only [entD, atts, strs, mods] at d1 d2 d3 d4 d5; cases hdd : deepU R fr to with
    | true =>
      rw [hdd] at d2; simp -implicitDefEqProofs [g2, g3, g4, g9, g11, g12, g13, gA, gB, hlt, hlt', hx, entD, atts]; refine callP d1 ?_; simp -implicitDefEqProofs [g2, g3, g4, g9, g11, g12, g13, gA, gB, hlt, hlt', hx, entD, atts]; refine callP d2 ?_; simp -implicitDefEqProofs [g2, g3, g4, g9, g11, g12, g13, gA, gB]; refine callK cA ?_; simp -implicitDefEqProofs
    | false =>
      rw [hdd] at d2; simp -implicitDefEqProofs [g2, g3, g4, g9, g11, g12, g13, gA, gB, hlt, hlt', hx, entD, atts]; refine callP d1 ?_; simp -implicitDefEqProofs [g2, g3, g4, g9, g11, g12, g13, gA, gB, hlt, hlt', hx, entD, atts]; refine callP d2 ?_; simp -implicitDefEqProofs [g2, g3, g4, g9, g11, g12, g13, gA, gB, hlt, hlt', hx, entD, atts]; refine callP d3 ?_; simp -implicitDefEqProofs [g2, g3, g4, g9, g11, g12, g13, gA, gB, hlt, hlt', hx, entD, atts]; refine callP d4 ?_; simp -implicitDefEqProofs [g2, g3, g4, g9, g11, g12, g13, gA, gB, hlt, hlt', hx, entD, atts]; refine givB [1000000, 1000001] 1000000 (d5 X) (by simp [gA, gB, tr]) rfl (by simp) ?_; rintro r hs' ⟨rfl, X5, rfl⟩; simp -implicitDefEqProofs [g2, g3, g4, g9, g11, g12, g13, gA, gB, takeH, putH, tr]; (repeat refine ai (by first | omega | rfl) ?_); exact again hlt ⟨X5, by simp [g2], by simp [g3], by simp [g4, hsd], by simp [g9], by simp [g11, pairs], by simp [g12], by simp, by simp, by simp [hN], hdp hdd⟩
  · have hlt' : ¬ (i : Int) < M.length := (by omega); obtain rfl : i = M.length := by omega
    have hP := hPA M.length (Nat.le_refl _); have hmem : ∀ e ∈ putK s fr to M M.length, FitR e.2 := fun e he => by
      obtain ⟨A, hA, hB⟩ := hP.mem e he; rcases hB with ⟨_, hB⟩ | ⟨_, hB⟩
      · rw [hB]; exact newA_fitR (hFB2 _ hA) s hfrn hto hvf hvt
      · rw [hB]; exact fb_fitR (hFB2 _ hA)
    have hFl : FE (putK s fr to M M.length) := fun e he => (hmem e he).1
    have hRl : FR (putK s fr to M M.length) := hmem; have d1 := fun X => broken_fn p u (putK s fr to M M.length) X hP.ti hFl hRl s hs
    have hNl := brokenU_len (s := s) hP.ti hRl; have hlw := hlaw (fun e he => by
      obtain ⟨j, hj, rfl⟩ := List.mem_iff_getElem.1 he; exact hdeep j hj hj)
    clear hlaw hdeep hmem hFl hRl hPA hPS hP hT2 hFB2 hF2; generalize hNB : brokenU s (putK s fr to M M.length) = NB at *; generalize putK s fr to M M.length = C at *; rw [hsd] at d1; simp only [pairs] at d1; simp -implicitDefEqProofs [g2, g3, g4, g9, g11, g12, g13, gA, gB, hlt, hlt', entD, atts]; refine givB [1000000, 1000001] 1000000 (d1 X) (by simp [gA, gB, tr]) rfl (by simp) ?_; rintro r hs' ⟨rfl, X5, rfl⟩; simp -implicitDefEqProofs [g2, g3, g4, g9, g11, g12, g13, gA, gB, takeH, putH, tr]; refine loopN NB.length (K8J fr to OB NB) ⟨by simp [g2], by simp [g3], by simp [g11, pairs], by simp [pairs], by simp⟩ ?_; clear d1 g2 g3 g4 g9 g11 g12 g13 gA gB; rintro n τ hn ⟨g2, g3, g11, g14, g15⟩; simp only [pairs] at g11 g14; by_cases hnt : n < NB.length
    · have hnt' : (n : Int) < NB.length := (by omega); obtain ⟨old, ho1, ho2⟩ := hlw NB[n] (gmm hnt); have hany : (OB.any fun o => decide (renU fr to o.2 = NB[n].2)) = true := List.any_eq_true.2 ⟨old, ho1, by simpa using ho2⟩; generalize hx : NB[n] = pr at *; obtain ⟨a, y⟩ := pr; simp only at hany; simp -implicitDefEqProofs [g2, g3, g11, g14, g15, hnt, hnt']; refine loopN OB.length (K8K fr to OB NB n y) ⟨by simp [g2], by simp [g3], by simp [g11, pairs], by simp [g14, pairs], by simp [g15], by simp, by simp⟩ ?_; clear g2 g3 g11 g14 g15; rintro k τ hk ⟨g2, g3, g11, g14, g15, g16, g17⟩; simp only [pairs] at g11 g14; by_cases hkt : k < OB.length
      · have hkt' : (k : Int) < OB.length := (by omega); have hN : ((OB.take (k + 1)).any fun o => decide (renU fr to o.2 = y)) = (((OB.take k).any fun o => decide (renU fr to o.2 = y)) || decide (renU fr to OB[k].2 = y)) := by
          rw [take_s hkt, List.any_append]; simp
        have hov := hOs _ (gmm hkt); have d1 := nunderR_fn OB[k].2 fr hov (by omega); have d2 := nrebaseR_fn OB[k].2 fr to hov (by omega) (by omega); generalize hz : OB[k] = z at *; obtain ⟨b, v⟩ := z; simp only at hN d1 d2; unfold renU at hN g16; generalize hw : ((OB.take k).any fun o => decide ((if underU o.2 fr = true then (rebaseU o.2 fr to).1 else o.2) = y)) = W at *; generalize hw2 : ((OB.take (k + 1)).any fun o => decide ((if underU o.2 fr = true then (rebaseU o.2 fr to).1 else o.2) = y)) = W2 at *; cases hu : underU v fr with
        | true =>
          rw [hu] at d1; simp only [hu, if_true] at hN; generalize rebaseU v fr to = G at *; obtain ⟨t, e⟩ := G; simp only at hN d2; cases W with
          | true =>
            simp -implicitDefEqProofs [g2, g3, g11, g14, g15, g16, g17, hkt, hkt', hz, pairD, hnt, hnt', hx]; refine callK d1 ?_; simp -implicitDefEqProofs [g2, g3, g11, g14, g15, g16, g17, hkt, hkt', hz, pairD]; refine callK d2 ?_; simp -implicitDefEqProofs [g2, g3, g11, g14, g15, g16, g17, hkt, hkt', hz, pairD, hnt, hnt', hx]; (repeat refine ai (by omega) ?_); exact again hkt ⟨by simp [g2], by simp [g3], by simp [g11, pairs], by simp [g14, pairs], by simp [g15], by unfold renU; rw [hw2, hN]; simp [g16], by simp⟩
          | false =>
            simp -implicitDefEqProofs [g2, g3, g11, g14, g15, g16, g17, hkt, hkt', hz, pairD, hnt, hnt', hx]; refine callK d1 ?_; simp -implicitDefEqProofs [g2, g3, g11, g14, g15, g16, g17, hkt, hkt', hz, pairD]; refine callK d2 ?_; simp -implicitDefEqProofs [g2, g3, g11, g14, g15, g16, g17, hkt, hkt', hz, pairD, hnt, hnt', hx]; (repeat refine ai (by omega) ?_); exact again hkt ⟨by simp [g2], by simp [g3], by simp [g11, pairs], by simp [g14, pairs], by simp [g15], by unfold renU; rw [hw2, hN]; simp, by simp⟩
        | false =>
          rw [hu] at d1; simp only [hu, Bool.false_eq_true, if_false] at hN; cases W with
          | true =>
            simp -implicitDefEqProofs [g2, g3, g11, g14, g15, g16, g17, hkt, hkt', hz, pairD, hnt, hnt', hx]; refine callK d1 ?_; simp -implicitDefEqProofs [g2, g3, g11, g14, g15, g16, g17, hkt, hkt', hz, pairD, hnt, hnt', hx]; (repeat refine ai (by omega) ?_); exact again hkt ⟨by simp [g2], by simp [g3], by simp [g11, pairs], by simp [g14, pairs], by simp [g15], by unfold renU; rw [hw2, hN]; simp [g16], by simp⟩
          | false =>
            simp -implicitDefEqProofs [g2, g3, g11, g14, g15, g16, g17, hkt, hkt', hz, pairD, hnt, hnt', hx]; refine callK d1 ?_; simp -implicitDefEqProofs [g2, g3, g11, g14, g15, g16, g17, hkt, hkt', hz, pairD, hnt, hnt', hx]; (repeat refine ai (by omega) ?_); exact again hkt ⟨by simp [g2], by simp [g3], by simp [g11, pairs], by simp [g14, pairs], by simp [g15], by unfold renU; rw [hw2, hN]; simp, by simp⟩
      · have hkt' : ¬ (k : Int) < OB.length := (by omega); rw [ttl (by omega), hany] at g16; simp -implicitDefEqProofs [g2, g3, g11, g14, g15, g16, g17, hkt, hkt', hnt, hnt']; (repeat refine ai (by omega) ?_); exact again hnt ⟨by simp [g2], by simp [g3], by simp [g11, pairs], by simp [g14, pairs], by simp⟩
    · have hnt' : ¬ (n : Int) < NB.length := (by omega); simp -implicitDefEqProofs [g2, g3, g11, g14, g15, hnt, hnt']; refine callK cA ?_; simp -implicitDefEqProofs
end Go.Proofs.Tz
namespace Go.Proofs.Tz
open Go.Vw Go.RowKit Go.Proofs
theorem RefintKept_ok (s : Sch) (l : List Ent) (fr to : Str) (hb : D.lims 140737488351232 [schD s, entsD l, .str fr, .str to]) : Ctr prog 8 [.d (schD s), .d (entsD l), .d (.str fr), .d (.str to)] (.d (.bool true)) := law8R_fn s (fitSch_of hb.1) l fr to
end Go.Proofs.Tz