/-
  What the functions that the statements about references reach compute, part 6 of 6, for data of bounded size (each theorem states its bound).
-/import Derived.Test.YtcmocioniaggoaaGreatDoorTc
import Derived.Test.YtcmocioniaggoaaGreatDoorTe
import Derived.Test.YtcmocioniaggoaaGreatDoorTd
import Derived.Test.YtcmocioniaggoaaGreatDoorWd
import Derived.Test.YtcmocioniaggoaaGreatDoorTa
import Derived.Test.YtcmocioniaggoaaGreatDoorWc
open Go.Proofs.Tryz
set_option linter.unusedSimpArgs false
set_option linter.unusedVariables false
namespace Go.Proofs.Tz
open Go.Vw Go.Lib
theorem nodup_sub_len {α : Type} [DecidableEq α] : ∀ {a b : List α}, a.Nodup → (∀ x ∈ a, x ∈ b) → a.length ≤ b.length
  | [], _, _, _ => Nat.zero_le _
  | x :: a, b, hn, hs => by
    have hp := List.nodup_cons.1 hn; have hx := hs x (by simp); have ih := nodup_sub_len (a := a) (b := b.erase x) hp.2 fun y hy => (List.mem_erase_of_ne (fun e : y = x => hp.1 (e ▸ hy))).2 (hs y (by simp [hy]))
    rw [List.length_erase_of_mem hx] at ih; have := List.length_pos_of_mem hx; simp only [List.length_cons]; omega
theorem isLetter_low (c : UInt8) : isLetter (lowc c) = isLetter c := by
  by_cases h : 65 ≤ (c.toNat : Int) ∧ (c.toNat : Int) ≤ 90
  · have e := lowc_toNat c h.1 h.2; have h1 : isLetter c = true := by simp only [isLetter, Bool.or_eq_true, Bool.and_eq_true, decide_eq_true_eq]; omega
    have h2 : isLetter (lowc c) = true := by simp only [isLetter, Bool.or_eq_true, Bool.and_eq_true, decide_eq_true_eq]; omega
    rw [h1, h2]
  · rw [lowc, if_neg h]
theorem nameC_low (c : UInt8) : nameC (lowc c) = nameC c := by
  by_cases h : 65 ≤ (c.toNat : Int) ∧ (c.toNat : Int) ≤ 90
  · have e := lowc_toNat c h.1 h.2; have h1 : isLetter c = true := by simp only [isLetter, Bool.or_eq_true, Bool.and_eq_true, decide_eq_true_eq]; omega
    rw [nameC, nameC, isLetter_low, h1]; simp
  · rw [lowc, if_neg h]
theorem nameB_low (s : Str) : nameB (lower s) = nameB s := by
  have h1 : (lower s).head?.any isLetter = s.head?.any isLetter := by
    cases s with
    | nil => rfl
    | cons c s => simp [lower, isLetter_low]
  have h2 : (lower s).all nameC = s.all nameC := by
    rw [Bool.eq_iff_iff, List.all_eq_true, List.all_eq_true]; simp only [lower, List.mem_map, forall_exists_index, and_imp, forall_apply_eq_imp_iff₂, nameC_low]
  rw [nameB, nameB, h1, h2, lower_len]
structure Valid (l : List Att) : Prop where
  len : l.length ≤ 32
  each : ∀ a ∈ l, nameB a.1 = true ∧ a.2 ≠ [] ∧ a.2.length ≤ 16 ∧ ∀ v ∈ a.2, cleanB v = true
  nod : ∀ a ∈ l, a.2.Nodup
  names : (l.map fun a => lower a.1).Nodup
theorem valid_sorted {r : List Att} (h1 : (sortedL r).length ≤ 32) (h2 : ∀ n v, HasL r n v → nameB n = true ∧ cleanB v = true) (h3 : ∀ n, (getL r n).length ≤ 16) : Valid (sortedL r) := by
  have hN := nf_sorted r; refine ⟨h1, fun x hx => ?_, fun x hx => (hN.vals x hx).nodup, ?_⟩
  · have hne := hN.ne x hx; have hin : ∀ v ∈ x.2, HasL r x.1 v := fun v hv => (sorted_has r x.1 v).1 ⟨x, hx, rfl, hv⟩
    obtain ⟨v, hv⟩ := List.exists_mem_of_ne_nil _ hne; refine ⟨(h2 _ _ (hin v hv)).1, hne, ?_, fun u hu => (h2 _ _ (hin u hu)).2⟩; have e : getL r x.1 = x.2 := SS_ext (SS_getL _ _) (hN.vals x hx) fun u => by
      rw [mem_getL, sorted_low hx]; constructor
      · intro h; obtain ⟨y, hy, e, hu⟩ := (sorted_has r x.1 u).2 h; rw [← nf_inj hN hy hx e]; exact hu
      · exact hin u
    rw [← e]; exact h3 x.1
  · have : ((sortedL r).map fun a => lower a.1) = (sortedL r).map (·.1) := List.map_congr_left fun x hx => sorted_low hx
    rw [this]; exact hN.names.nodup
theorem Valid.get {l : List Att} (h : Valid l) (n : Str) : (getL l n).length ≤ 16 := by
  by_cases he : getL l n = []
  · simp [he]
  obtain ⟨v, hv⟩ := List.exists_mem_of_ne_nil _ he; obtain ⟨a, ha, ea, _⟩ := (mem_getL l n v).1 hv; refine Nat.le_trans (nodup_sub_len (SS_getL l n).nodup fun u hu => ?_) (h.each a ha).2.2.1; obtain ⟨b, hb, eb, hu⟩ := (mem_getL l n u).1 hu; have : b = a := by
    obtain ⟨i, hi, rfl⟩ := List.mem_iff_getElem.1 ha; obtain ⟨j, hj, rfl⟩ := List.mem_iff_getElem.1 hb; have := nodup_inj h.names (i := i) (j := j) (by simpa using hi) (by simpa using hj) (by simp [ea, eb]); subst this; rfl
  rw [← this]; exact hu
theorem Valid.has {l : List Att} (h : Valid l) {n v : Str} (hh : HasL l n v) : nameB n = true ∧ cleanB v = true := by
  obtain ⟨a, ha, rfl, hv⟩ := hh; exact ⟨by rw [nameB_low]; exact (h.each a ha).1, (h.each a ha).2.2.2 v hv⟩
theorem Valid.sorted {l : List Att} (h : Valid l) : Valid (sortedL l) :=
  valid_sorted (Nat.le_trans (sorted_len l) h.len) (fun _ _ hh => h.has hh) h.get
theorem getL_set' (l : List Att) (name : Str) (w : List Str) (n : Str) : getL (setL (sortedL l) name w) n = if lower name = lower n then getL (setL (sortedL l) name w) name else getL l n := by
  split
  · rename_i h
    simp only [getL, h]
  · rename_i h; exact getL_other l w h
theorem Valid.set {l : List Att} (h : Valid l) {name : Str} {w : List Str} (hn : nameB name = true) (hw : ∀ v ∈ w, cleanB v = true) (h32 : (setL (sortedL l) name w).length ≤ 32) (h16 : (getL (setL (sortedL l) name w) name).length ≤ 16) : Valid (setL (sortedL l) name w) := by
  have hH := hasL_set l name w; have hG := getL_set' l name w; have key : Valid (sortedL (setL (sortedL l) name w)) := by
    have hi : sortedL (setL (sortedL l) name w) = setL (sortedL l) name w := by rw [setL, sorted_idem]
    refine valid_sorted (by rw [hi]; exact h32) (fun n v hh => ?_) (fun n => ?_)
    · rcases (hH n v).1 hh with ⟨_, h1⟩ | ⟨rfl, h1⟩
      · exact h.has h1
      · exact ⟨by rw [nameB_low]; exact hn, hw v h1⟩
    · rw [hG n]; split
      · exact h16
      · exact h.get n
  have hi : sortedL (setL (sortedL l) name w) = setL (sortedL l) name w := by rw [setL, sorted_idem]
  rw [hi] at key; exact key
theorem limL_ok {l : List Att} {name : Str} (h : (limL l name).2 = 0) : (limL l name).1 = l ∧ l.length ≤ 32 ∧ (getL l name).length ≤ 16 := by
  unfold limL at h ⊢; split at h
  · simp at h
  · rename_i hc
    rw [if_neg hc]; simp only [not_or] at hc; exact ⟨rfl, by omega, by omega⟩
theorem addP_ok {l : List Att} {name : Str} {v : List Str} (h : (addP l name v).2 = 0) : nameB name = true ∧ v ≠ [] ∧ chkV (getL l name) [] v = 0 ∧ (addP l name v).1 = setL (sortedL l) name (getL l name ++ v) ∧ (addP l name v).1.length ≤ 32 ∧ (getL (addP l name v).1 name).length ≤ 16 := by
  unfold addP at h ⊢; split at h
  · simp at h
  rename_i h1
  split at h
  · simp at h
  rename_i h2
  split at h
  · rename_i h3; exact absurd h h3
  rename_i h3
  rw [if_neg h1, if_neg h2, if_neg h3]; obtain ⟨a, b, c⟩ := limL_ok h; rw [a]; exact ⟨by simpa using h1, h2, by simpa using h3, rfl, b, c⟩
theorem Valid.add {l : List Att} (h : Valid l) {name : Str} {v : List Str} (h0 : (addP l name v).2 = 0) : Valid (addP l name v).1 := by
  obtain ⟨h1, h2, h3, h4, h5, h6⟩ := addP_ok h0; rw [h4] at h5 h6 ⊢; refine h.set h1 (fun x hx => ?_) h5 h6; rcases List.mem_append.1 hx with hx | hx
  · exact (h.has ((mem_getL l name x).1 hx)).2
  · exact (((chkV_zero _ _ _).1 h3).1 x hx).1
end Go.Proofs.Tz
set_option maxRecDepth 100000
set_option maxHeartbeats 16000000
namespace Go.Proofs.Tz
open Go.Vw Go.RowKit Go.Proofs Go.Sort
def yO : Str := [111, 61, 120]
def yA : Str := [99, 110, 61, 97, 44, 111, 61, 120]
def yB : Str := [99, 110, 61, 98, 44, 111, 61, 120]
def yG : Str := [99, 110, 61, 103, 44, 111, 61, 120]
def yH : Str := [99, 110, 61, 104, 44, 111, 61, 120]
def yZ : Str := [99, 110, 61, 122, 44, 111, 61, 120]
def yK : Str := [99, 110, 61, 107, 44, 111, 61, 120]
def yBs : Str := [99, 110, 61, 98, 44, 32, 111, 61, 120]
def yHC : Str := [67, 78, 61, 104, 44, 111, 61, 120]
def yBC : Str := [67, 78, 61, 98, 44, 111, 61, 120]
def yGroup : Str := [71, 114, 111, 117, 112]
def atG : List Att := [(sClass, [yGroup]), (sMember, [yHC, yA])]
def atH : List Att := [(sClass, [sGroup]), (sMember, [yG, yBs, yZ])]
def atH2 : List Att := [(sClass, [sGroup]), (sMember, [yBs, yG, yZ])]
def ysch : Sch := ([(sClass, 1, false), (sMember, 4, false)], [])
def Y1 : List Ent := [(yO, [])]
def Y2 : List Ent := [(yO, []), (yA, [])]
def Y3 : List Ent := [(yO, []), (yA, []), (yB, [])]
def Y4 : List Ent := [(yO, []), (yA, []), (yB, []), (yG, atG)]
def Y5 : List Ent := [(yO, []), (yA, []), (yB, []), (yG, atG), (yH, atH2)]
theorem y1 : newE [yO] = (Y1, 0) := by kernel_rfl
theorem y2 : addE Y1 yA [] = (Y2, 0) := by kernel_rfl
theorem y3 : addE Y2 yB [] = (Y3, 0) := by kernel_rfl
theorem y4 : addE Y3 yG atG = (Y4, 0) := by kernel_rfl
theorem y5 : addE Y4 yH atH = (Y5, 0) := by kernel_rfl
theorem fit_atG : FitR atG := ⟨⟨⟨by decide, by decide⟩, by decide⟩, by decide⟩
theorem fit_atH : FitR atH := ⟨⟨⟨by decide, by decide⟩, by decide⟩, by decide⟩
theorem fit_at0 : FitR [] := ⟨⟨⟨by decide, by decide⟩, by decide⟩, by decide⟩
theorem FR.add {E : List Ent} (h : FR E) (n : Str) {a : List Att} (ha : FitR a) : FR (addE E n a).1 := by
  unfold addE; repeat' split
  all_goals try exact h
  intro e he; rcases insE_mem.1 he with rfl | he
  · exact ha.sorted
  · exact h e he
theorem tiY5 : TI Y5 ∧ FE Y5 ∧ FR Y5 := by
  have h := new_ok (R := [yO]) (by rw [y1]); rw [y1] at h; have a1 := h.1; have b1 := h.2.1; have d1 : FR Y1 := fun e he => by
    rw [List.mem_singleton.1 he]; exact fit_at0
  have a2 := a1.add yA []; have b2 := b1.add yA fit_at0.1; have d2 := d1.add yA fit_at0; simp only at a2 b2 d2; rw [y2] at a2 b2 d2; have a3 := a2.add yB []; have b3 := b2.add yB fit_at0.1; have d3 := d2.add yB fit_at0; simp only at a3 b3 d3; rw [y3] at a3 b3 d3; have a4 := a3.add yG atG; have b4 := b3.add yG fit_atG.1; have d4 := d3.add yG fit_atG; simp only at a4 b4 d4; rw [y4] at a4 b4 d4; have a5 := a4.add yH atH; have b5 := b4.add yH fit_atH.1; have d5 := d4.add yH fit_atH; simp only at a5 b5 d5; rw [y5] at a5 b5 d5; exact ⟨a5, b5, d5⟩
theorem fit_ysch : FitSch ysch := ⟨by decide, by decide, fun t ht => by
  unfold FitTy; rcases List.mem_cons.1 ht with rfl | ht
  · decide
  · rw [List.mem_singleton.1 ht]; decide, fun c hc => by cases hc⟩
theorem key_len {E : List Ent} (h : TI E) : ∀ e ∈ E, List.length e.1 < 900000 := fun e he => h.klen (List.mem_map.2 ⟨e, he, rfl⟩)
theorem ks_G : ksE Y5 yG = some (some [yH, yA]) := by kernel_rfl
theorem ks_H : ksE Y5 yH = some (some [yB, yG, yZ]) := by kernel_rfl
theorem ks_A : ksE Y5 yA = some none := by kernel_rfl
theorem ks_B : ksE Y5 yB = some none := by kernel_rfl
theorem ks_O : ksE Y5 yO = some none := by kernel_rfl
theorem dfs_G : dfsU (ksE Y5) (keysE Y5) yG = [yB, yA] := by kernel_rfl
theorem dfs_H : dfsU (ksE Y5) (keysE Y5) yH = [yB, yA] := by kernel_rfl
theorem ns_AB : NS [yA, yB] := by
  refine List.pairwise_cons.2 ⟨fun x hx => ?_, List.pairwise_singleton _ _⟩; rw [List.mem_singleton.1 hx]; have : cmpN yA yB = -1 := by kernel_rfl
  show cmpN yA yB < 0
  rw [this]; decide
theorem mem_G : membersU Y5 yG = some [yA, yB] := by
  unfold membersU; rw [ks_G]; simp only; unfold memU; rw [dfs_G, sort_names ns_AB (List.Perm.swap _ _ _)]
theorem mem_H : membersU Y5 yH = some [yA, yB] := by
  unfold membersU; rw [ks_H]; simp only; unfold memU; rw [dfs_H, sort_names ns_AB (List.Perm.swap _ _ _)]
theorem mt_G : memT Y5 yG = ([yA, yB], 0) := by unfold memT; rw [mem_G]
theorem mt_A : memT Y5 yA = ([], 6) := by unfold memT membersU; rw [ks_A]
theorem gr_B : groupsU Y5 yB = [yG, yH] := by
  have e : keysE Y5 = [yO, yA, yB, yG, yH] := rfl; have q : ∀ g, (match membersU Y5 g with | some l => decide (yB ∈ l) | none => false) = memQ Y5 yB g := fun g => rfl
  have m1 : memQ Y5 yB yO = false := by unfold memQ membersU; rw [ks_O]
  have m2 : memQ Y5 yB yA = false := by unfold memQ membersU; rw [ks_A]
  have m3 : memQ Y5 yB yB = false := by unfold memQ membersU; rw [ks_B]
  have m4 : memQ Y5 yB yG = true := by unfold memQ; rw [mem_G]; decide
  have m5 : memQ Y5 yB yH = true := by unfold memQ; rw [mem_H]; decide
  show (keysE Y5).filter (memQ Y5 yB) = _
  rw [e]; simp only [List.filter_cons, List.filter_nil, m1, m2, m3, m4, m5, Bool.false_eq_true, if_false, if_true]
theorem bk_Y : brokenU ysch Y5 = [(yH, yZ)] := by kernel_rfl
theorem gt_H : getT Y5 yH = ((yH, atH2), true) := by kernel_rfl
theorem rf_H : refsU ysch atH2 = [yB, yG, yZ] := by kernel_rfl
theorem rn_H : renamedU ysch atH2 yG yK = [(3, sMember, [yBs, yK, yZ])] := by kernel_rfl
theorem rm_H : removedU ysch atH2 yBC = [(2, sMember, [yBs])] := by kernel_rfl
theorem rr_H : referU ysch Y5 yH = [yG] := by kernel_rfl
theorem fit_atH2 : FitR atH2 := ⟨⟨⟨by decide, by decide⟩, by decide⟩, by decide⟩
theorem sample_fn : CtrG prog 44 [] [] (fun r hs' => ∃ p u, r = .tup [.d (schD ysch), .d (.raw (va p))] ∧ TR p u Y5 hs') := by
  refine fn_of_vwpGN (rs := [.cell 0 25, .tmp 1]) (fun i => i == 5000011 || i == 5000019 || i == 5000022 || i == 5000030 || i == 5000038) (by kernel_rfl) func44 (by kernel_rfl) rfl rfl (by simp) (nbl rfl) (by kernel_rfl) rfl ?_; have c1 := tnew_fn [yO] (by simp [yO]); have c2 := fun p u X => tadd_fn p u Y1 X yA [] (by decide) fit_at0.1
  have c3 := fun p u X => tadd_fn p u Y2 X yB [] (by decide) fit_at0.1
  have c4 := fun p u X => tadd_fn p u Y3 X yG atG (by decide) fit_atG.1
  have c5 := fun p u X => tadd_fn p u Y4 X yH atH (by decide) fit_atH.1
  rw [y1] at c1; simp only [y2] at c2; simp only [y3] at c3; simp only [y4] at c4; simp only [y5] at c5; generalize Y1 = E1 at *; generalize Y2 = E2 at *; generalize Y3 = E3 at *; generalize Y4 = E4 at *; generalize Y5 = E5 at *; simp only [entD, atts, att, strs, List.map_cons, List.map_nil, yO, yA, yB, yG, yH, yHC, yBs, yZ, yGroup, atG, atH, sClass, sMember, sGroup] at c1 c2 c3 c4 c5; simp only [schD, ysch, tyD, sClass, sMember, List.map_cons, List.map_nil]; simp -implicitDefEqProofs [initG]; repeat refine And.intro (by first | omega | rfl) ?_
  refine givB [] 1000000 c1 (by simp) rfl (by simp) ?_; rintro r hs' (⟨h, _⟩ | ⟨_, p, u, rfl, rfl⟩)
  · exact absurd rfl h
  simp -implicitDefEqProofs [initG, takeH, putH, tr]; repeat refine And.intro (by first | omega | rfl) ?_
  refine givB [1000000, 1000001] 1000000 (c2 p u none) (by simp [tr]) rfl (by simp) ?_; rintro r hs' ⟨rfl, X1, rfl⟩; simp -implicitDefEqProofs [initG, takeH, putH, tr]; repeat refine And.intro (by first | omega | rfl) ?_
  refine givB [1000000, 1000001] 1000000 (c3 p u X1) (by simp [tr]) rfl (by simp) ?_; rintro r hs' ⟨rfl, X2, rfl⟩; simp -implicitDefEqProofs [initG, takeH, putH, tr]; repeat refine And.intro (by first | omega | rfl) ?_
  refine givB [1000000, 1000001] 1000000 (c4 p u X2) (by simp [tr]) rfl (by simp) ?_; rintro r hs' ⟨rfl, X3, rfl⟩; simp -implicitDefEqProofs [initG, takeH, putH, tr]; repeat refine And.intro (by first | omega | rfl) ?_
  refine givB [1000000, 1000001] 1000000 (c5 p u X3) (by simp [tr]) rfl (by simp) ?_; rintro r hs' ⟨rfl, X4, rfl⟩; simp -implicitDefEqProofs [initG, takeH, putH, tr]; repeat refine And.intro (by first | omega | rfl) ?_
  exact ⟨[.d (.agg [.sl [.agg [.str [99, 108, 97, 115, 115], .int .i64 1, .bool false], .agg [.str [109, 101, 109, 98, 101, 114], .int .i64 4, .bool false]], .sl []]), .d (.raw (va p))], [1000000, 1000001], by simp, by simp [isH], by simp [resDs, resD], p, rfl, u, X4, by simp [tr]⟩
theorem awake_fn : Ctr prog 10 [] (.d (.bool true)) := by
  refine fn_of_vwp (fun i => i == 5000015 || i == 5000022 || i == 5000027 || i == 5000031 || i == 5000034 || i == 5000037 || i == 5000132) (by kernel_rfl) func10 (by kernel_rfl) rfl rfl (nbl rfl) (by kernel_rfl) rfl rfl ?_; obtain ⟨hT, hF, hR⟩ := tiY5; have hk := key_len hT; have c0 := sample_fn; have c1 := fun p u X => members_fn p u Y5 X hT hF hR hk yG
  have c2 := fun p u X => members_fn p u Y5 X hT hF hR hk yA
  have c3 := fun p u X => groups_fn p u Y5 X hT hF hR hk yB
  have c4 := fun p u X => broken_fn p u Y5 X hT hF hR ysch fit_ysch
  have c5 := fun p u X => tget_fn p u Y5 X yH hF
  have c6 := refs_fn ysch (yH, atH2) fit_ysch fit_atH2; have c7 := renamed_fn ysch fit_ysch (yH, atH2) fit_atH2 yG yK (by decide) (by decide); have c8 := removed_fn ysch fit_ysch (yH, atH2) fit_atH2 yBC (by decide); have c9 := fun p u X => referrers_fn p u Y5 X hT hF hR ysch fit_ysch yH (by decide)
  have s1 := same_fn [yA, yB] [yA, yB] (by decide) (by decide); have s2 := same_fn [yG, yH] [yG, yH] (by decide) (by decide); have s3 := same_fn [yB, yG, yZ] [yB, yG, yZ] (by decide) (by decide); have s4 := same_fn [yBs, yK, yZ] [yBs, yK, yZ] (by decide) (by decide); have s5 := same_fn [yBs] [yBs] (by decide) (by decide); have s6 := same_fn [yG] [yG] (by decide) (by decide); simp only [mt_G] at c1; simp only [mt_A] at c2; simp only [gr_B] at c3; simp only [bk_Y] at c4; simp only [gt_H] at c5; simp only [rf_H] at c6; simp only [rn_H] at c7; simp only [rm_H] at c8; simp only [rr_H] at c9; simp only [decide_true] at s1 s2 s3 s4 s5 s6; clear hT hF hR hk; generalize Y5 = E at *; have hsd : ∃ a b, schD ysch = .agg [a, b] ∧ width a = 1 ∧ width b = 1 := ⟨_, _, rfl, rfl, rfl⟩; obtain ⟨sa, sb, hsd, hw1, hw2⟩ := hsd; have hz : (schD ysch) = .agg [.sl (ysch.1.map tyD), .sl (ysch.2.map clD)] := rfl; rw [hz] at c0 c4 c6 c7 c8 c9; clear hsd hw1 hw2 sa sb hz; generalize ysch.1.map tyD = S1 at *; generalize ysch.2.map clD = S2 at *; simp only [entD, atts, att, strs, pairs, pairD, mods, modD, List.map_cons, List.map_nil, yA, yB, yG, yH, yK, yBC, yBs, yZ, atH2, sClass, sMember, sGroup] at c0 c1 c2 c3 c4 c5 c6 c7 c8 c9 s1 s2 s3 s4 s5 s6; simp -implicitDefEqProofs; repeat refine And.intro (by first | omega | rfl) ?_
  refine givB [] 1000000 c0 (by simp) rfl (by simp) ?_; rintro r hs' ⟨p, u, rfl, X0, rfl⟩; simp -implicitDefEqProofs [takeH, putH, tr]; repeat refine And.intro (by first | omega | rfl) ?_
  refine givB [1000000, 1000001] 1000000 (c1 p u X0) (by simp [tr]) rfl (by simp) ?_; rintro r hs' ⟨rfl, rfl⟩; simp -implicitDefEqProofs [takeH, putH, tr]; repeat refine And.intro (by first | omega | rfl) ?_
  refine givB [1000000, 1000001] 1000000 (c2 p u X0) (by simp [tr]) rfl (by simp) ?_; rintro r hs' ⟨rfl, rfl⟩; simp -implicitDefEqProofs [takeH, putH, tr]; repeat refine And.intro (by first | omega | rfl) ?_
  refine givB [1000000, 1000001] 1000000 (c3 p u X0) (by simp [tr]) rfl (by simp) ?_; rintro r hs' ⟨rfl, X1, rfl⟩; simp -implicitDefEqProofs [takeH, putH, tr]; repeat refine And.intro (by first | omega | rfl) ?_
  refine givB [1000000, 1000001] 1000000 (c4 p u X1) (by simp [tr]) rfl (by simp) ?_; rintro r hs' ⟨rfl, X2, rfl⟩; simp -implicitDefEqProofs [takeH, putH, tr]; repeat refine And.intro (by first | omega | rfl) ?_
  refine givB [1000000, 1000001] 1000000 (c5 p u X2) (by simp [tr]) rfl (by simp) ?_; rintro r hs' ⟨rfl, rfl⟩; simp -implicitDefEqProofs [takeH, putH, tr]; repeat refine And.intro (by first | omega | rfl) ?_
  refine callK c6 ?_; simp -implicitDefEqProofs; repeat refine And.intro (by first | omega | rfl) ?_
  refine callK c7 ?_; simp -implicitDefEqProofs; repeat refine And.intro (by first | omega | rfl) ?_
  refine callK c8 ?_; simp -implicitDefEqProofs; repeat refine And.intro (by first | omega | rfl) ?_
  refine callK s1 ?_; simp -implicitDefEqProofs; repeat refine And.intro (by first | omega | rfl) ?_
  refine callK s2 ?_; simp -implicitDefEqProofs; repeat refine And.intro (by first | omega | rfl) ?_
  refine callK s3 ?_; simp -implicitDefEqProofs; repeat refine And.intro (by first | omega | rfl) ?_
  refine callK s4 ?_; simp -implicitDefEqProofs; repeat refine And.intro (by first | omega | rfl) ?_
  refine callK s5 ?_; simp -implicitDefEqProofs; repeat refine And.intro (by first | omega | rfl) ?_
  refine givB [1000000, 1000001] 1000000 (c9 p u X2) (by simp [tr]) rfl (by simp) ?_; rintro r hs' ⟨rfl, X3, rfl⟩; simp -implicitDefEqProofs [takeH, putH, tr]; repeat refine And.intro (by first | omega | rfl) ?_
  refine callK s6 ?_; simp -implicitDefEqProofs
end Go.Proofs.Tz
namespace Go.Proofs.Tz
open Go.Vw Go.RowKit Go.Proofs
def entB (e : Ent) : Bool := shB e.1 && (decide (e.2.length ≤ 8) && e.2.all attB)
def LeA (n : Str) (A : List Att) (k : Nat) (τ : St) : Prop := τ 1 = .box (entD (n, A)) ∧ τ 3 = .d (.int .i64 k) ∧ (A.take k).all attB = true
def LeB (n : Str) (A : List Att) (i : Nat) (V : List Str) (k : Nat) (τ : St) : Prop := τ 1 = .box (entD (n, A)) ∧ τ 3 = .d (.int .i64 i) ∧ τ 4 = .d (.int .i64 k) ∧ (V.take k).all shB = true
theorem lightEn_fn (e : Ent) : Ctr prog 43 [.d (entD e)] (.d (.bool (entB e))) := by
  refine fn_of_vwp (fun _ => false) (by kernel_rfl) func43 (by kernel_rfl) rfl rfl (nbl rfl) (by kernel_rfl) rfl rfl ?_; obtain ⟨n, A⟩ := e; have hed : entD (n, A) = .agg [.str n, .sl (A.map att)] := rfl; obtain ⟨V, hV⟩ : ∃ V, entB (n, A) = V := ⟨_, rfl⟩; rw [hV, hed]; unfold entB at hV; simp only at hV; by_cases n1 : List.length n ≤ 300
  case neg =>
    have n1' : (300 : Int) < List.length n := by omega
    have hV0 : V = false := by rw [← hV]; simp [shB]; omega
    simp -implicitDefEqProofs [n1', hV0]
  have n1' : ¬ (300 : Int) < List.length n := by omega
  by_cases n3 : A.length ≤ 8
  case neg =>
    have n3' : (8 : Int) < A.length := by omega
    have hV0 : V = false := by rw [← hV]; simp [shB]; omega
    simp -implicitDefEqProofs [n1', n3', hV0]
  have n3' : ¬ (8 : Int) < A.length := by omega
  have hV : A.all attB = V := by rw [← hV]; simp [shB, n1, n3]
  simp -implicitDefEqProofs [n1', n3']; refine loopN A.length (LeA n A) ⟨by simp [hed], by simp, by simp⟩ ?_; rintro k τ hk ⟨g1, g3, hI⟩; rw [hed] at g1; by_cases hlt : k < A.length
  · have hlt' : (k : Int) < A.length := by omega
    have hts := take_all (f := attB) hlt; have hbad : attB A[k] = false → V = false := fun h => by rw [← hV]; exact all_false hlt h
    generalize hx : A[k] = y at *; obtain ⟨an, vs⟩ := y; have hta : att (an, vs) = .agg [.str an, .sl (vs.map .str)] := rfl; have haw : ∀ a : Att, width (att a) = 2 := fun _ => rfl
    by_cases m1 : List.length an ≤ 300
    case neg =>
      have m1' : (300 : Int) < List.length an := by omega
      have hV0 := hbad (by simp [attB, shB]; omega); simp -implicitDefEqProofs [g1, g3, hlt, hlt', hx, hta, m1', hV0]
    have m1' : ¬ (300 : Int) < List.length an := by omega
    by_cases m2 : vs.length ≤ 8
    case neg =>
      have m2' : (8 : Int) < vs.length := by omega
      have hV0 := hbad (by simp [attB, shB]; omega); simp -implicitDefEqProofs [g1, g3, hlt, hlt', hx, hta, m1', m2', hV0]
    have m2' : ¬ (8 : Int) < vs.length := by omega
    have hat : attB (an, vs) = vs.all shB := by simp [attB, shB, m1, m2]
    rw [hat] at hts hbad; simp -implicitDefEqProofs [g1, g3, hlt, hlt', hx, hta, m1', m2']; repeat refine And.intro (by first | omega | rfl) ?_
    refine loopN vs.length (LeB n A k vs) ⟨by simp [g1, hed], by simp [g3], by simp, by simp⟩ ?_; rintro j τ2 hj ⟨q1, q3, q4, hJ⟩; rw [hed] at q1; by_cases hjt : j < vs.length
    · have hjt' : (j : Int) < vs.length := by omega
      have hts2 := take_all (f := shB) hjt; have hbad2 : shB vs[j] = false → V = false := fun h => hbad (all_false hjt h)
      generalize hy : vs[j] = s at *; by_cases hs : List.length s ≤ 300
      · have hs' : ¬ (300 : Int) < List.length s := by omega
        simp -implicitDefEqProofs [q1, q3, q4, hlt, hlt', hx, hta, hjt, hjt', hy, hs']; repeat refine And.intro (by first | omega | rfl) ?_
        exact again hjt ⟨by simp [q1, hed], by simp [q3], by simp, by rw [hts2, hJ]; simp [shB, hs]⟩
      · have hs' : (300 : Int) < List.length s := by omega
        have hV0 := hbad2 (by simp [shB]; omega); simp -implicitDefEqProofs [q1, q3, q4, hlt, hlt', hx, hta, hjt, hjt', hy, hs', hV0]
    · have hjt' : ¬ (j : Int) < vs.length := by omega
      rw [ttl (by omega)] at hJ; simp -implicitDefEqProofs [q1, q3, q4, hlt, hlt', hx, hta, hjt, hjt']; repeat refine And.intro (by first | omega | rfl) ?_
      exact again hlt ⟨by simp [q1, hed], by simp, by rw [hts, hI, hJ]; rfl⟩
  · have hlt' : ¬ (k : Int) < A.length := by omega
    rw [ttl (by omega), hV] at hI; simp -implicitDefEqProofs [g1, g3, hlt, hlt', hI]
def tyB (t : Ty) : Bool := shB t.1
def lgtB (s : Sch) (l : List Ent) : Bool := (l.take 12).all entB && ((s.1.take 20).all tyB && (decide (l.length ≤ 12) && (decide (s.1.length ≤ 20) && decide (s.2.length ≤ 20))))
def LgA (s : Sch) (l : List Ent) (k : Nat) (τ : St) : Prop := τ 2 = .box (schD s) ∧ τ 1 = .d (entsD l) ∧ τ 5 = .d (.int .i64 k) ∧ (l.take k).all entB = true
def LgB (s : Sch) (l : List Ent) (k : Nat) (τ : St) : Prop := τ 2 = .box (schD s) ∧ τ 1 = .d (entsD l) ∧ τ 6 = .d (.int .i64 k) ∧ (s.1.take k).all tyB = true
theorem light_fn (s : Sch) (l : List Ent) : Ctr prog 9 [.d (schD s), .d (entsD l)] (.d (.bool (lgtB s l))) := by
  refine fn_of_vwp (fun _ => false) (by kernel_rfl) func9 (by kernel_rfl) rfl rfl (nbl rfl) (by kernel_rfl) rfl rfl ?_; obtain ⟨T, C⟩ := s; have hsd : schD (T, C) = .agg [.sl (T.map tyD), .sl (C.map clD)] := rfl; have hew : ∀ e : Ent, width (entD e) = 2 := fun _ => rfl
  obtain ⟨V, hV⟩ : ∃ V, lgtB (T, C) l = V := ⟨_, rfl⟩; rw [hV]; unfold lgtB at hV; simp only at hV; simp -implicitDefEqProofs [hsd, entsD]; refine loopN (min l.length 12) (LgA (T, C) l) ⟨by simp [hsd], by simp [entsD], by simp, by simp⟩ ?_; rintro k τ hk ⟨g2, g1, g5, hI⟩; rw [hsd] at g2; simp only [entsD] at g1; by_cases hlt : k < min l.length 12
  · have b1 : k < l.length := by omega
    have b1' : (k : Int) < l.length := by omega
    have b2 : (k : Int) < 12 := by omega
    have hts := take_all (f := entB) b1; have hbad : entB l[k] = false → V = false := fun h => by
      rw [← hV, all_false (k := k) (by simp; omega) (by simpa using h)]; rfl
    have c1 := lightEn_fn l[k]; generalize hx : l[k] = e at *; obtain ⟨n, A⟩ := e; have hed : entD (n, A) = .agg [.str n, .sl (A.map att)] := rfl; rw [hed] at c1; cases hb : entB (n, A) with
    | true =>
      rw [hb] at c1 hts; simp -implicitDefEqProofs [g2, g1, g5, b1, b1', b2, hx, hed]; refine callK c1 ?_; simp -implicitDefEqProofs [g2, g1, g5]; repeat refine And.intro (by first | omega | rfl) ?_
      exact again hlt ⟨by simp [g2, hsd], by simp [g1, entsD], by simp, by rw [hts, hI]; rfl⟩
    | false =>
      rw [hb] at c1; have hV0 := hbad hb; simp -implicitDefEqProofs [g2, g1, g5, b1, b1', b2, hx, hed]; refine callK c1 ?_; simp -implicitDefEqProofs [g2, g1, g5, hV0]
  have hRA : (l.take 12).all entB = true := by
    have : l.take k = l.take 12 := by
      by_cases h6 : l.length ≤ 12
      · rw [ttl (by omega), ttl h6]
      · have : k = 12 := by omega
        rw [this]
    rw [← this]; exact hI
  rw [hRA, Bool.true_and] at hV; have hgo : (¬ (k : Int) < l.length) ∨ ((k : Int) < l.length ∧ ¬ (k : Int) < 12) := by omega
  rcases hgo with h1 | ⟨h1, h2⟩
  all_goals
    first
      | simp -implicitDefEqProofs [g2, g1, g5, h1, h2]
      | simp -implicitDefEqProofs [g2, g1, g5, h1]
    refine loopN (min T.length 20) (LgB (T, C) l) ⟨by simp [g2, hsd], by simp [g1, entsD], by simp, by simp⟩ ?_; rintro i τ2 hi ⟨q2, q1, q6, hJ⟩; rw [hsd] at q2; simp only [entsD] at q1; by_cases hit : i < min T.length 20
    · have d1 : i < T.length := by omega
      have d1' : (i : Int) < T.length := by omega
      have d2 : (i : Int) < 20 := by omega
      have hts := take_all (f := tyB) d1; have hbad : tyB T[i] = false → V = false := fun h => by
        rw [← hV, all_false (k := i) (by simp; omega) (by simpa using h)]; rfl
      generalize hy : T[i] = t at *; obtain ⟨m, sy, sg⟩ := t; have htd : tyD (m, sy, sg) = .agg [.str m, .int .i64 sy, .bool sg] := rfl; by_cases hs : List.length m ≤ 300
      · have hs' : ¬ (300 : Int) < List.length m := by omega
        simp -implicitDefEqProofs [q2, q1, q6, d1, d1', d2, hy, htd, hs']; repeat refine And.intro (by first | omega | rfl) ?_
        exact again hit ⟨by simp [q2, hsd], by simp [q1, entsD], by simp, by rw [hts, hJ]; simp [tyB, shB, hs]⟩
      · have hs' : (300 : Int) < List.length m := by omega
        have hV0 := hbad (by simp [tyB, shB]; omega); simp -implicitDefEqProofs [q2, q1, q6, d1, d1', d2, hy, htd, hs', hV0]
    · have hTA : (T.take 20).all tyB = true := by
        have : T.take i = T.take 20 := by
          by_cases h6 : T.length ≤ 20
          · rw [ttl (by omega), ttl h6]
          · have : i = 20 := by omega
            rw [this]
        rw [← this]; exact hJ
      rw [hTA, Bool.true_and] at hV; have hgo2 : (¬ (i : Int) < T.length) ∨ ((i : Int) < T.length ∧ ¬ (i : Int) < 20) := by omega
      rcases hgo2 with e1 | ⟨e1, e2⟩
      all_goals
        by_cases w1 : l.length ≤ 12
        · have w1' : (l.length : Int) ≤ 12 := by omega
          by_cases w2 : T.length ≤ 20
          · have w2' : (T.length : Int) ≤ 20 := by omega
            by_cases w3 : C.length ≤ 20
            · have w3' : (C.length : Int) ≤ 20 := by omega
              simp only [w1, w2, w3, decide_true, Bool.and_self] at hV; subst hV; simp -implicitDefEqProofs [*]
            · have w3' : ¬ (C.length : Int) ≤ 20 := by omega
              simp only [w1, w2, w3, decide_true, decide_false, Bool.and_false] at hV; subst hV; simp -implicitDefEqProofs [*]
          · have w2' : ¬ (T.length : Int) ≤ 20 := by omega
            simp only [w1, w2, decide_true, decide_false, Bool.and_false, Bool.false_and] at hV; subst hV; simp -implicitDefEqProofs [*]
        · have w1' : ¬ (l.length : Int) ≤ 12 := by omega
          simp only [w1, decide_false, Bool.false_and] at hV; subst hV; simp -implicitDefEqProofs [*]
end Go.Proofs.Tz
namespace Go.Proofs.Tz
open Go.Vw Go.RowKit Go.Proofs Go.Sort
theorem entB_fit {e : Ent} (h : entB e = true) : FitR e.2 ∧ List.length e.1 ≤ 300 := by
  unfold entB at h; simp only [Bool.and_eq_true, decide_eq_true_eq, List.all_eq_true] at h; obtain ⟨h1, h2, h3⟩ := h; have hv : ∀ a ∈ e.2, List.length a.1 ≤ 300 ∧ a.2.length ≤ 8 ∧ ∀ v ∈ a.2, List.length v ≤ 300 := fun a ha => by
    have := h3 a ha; simp only [attB, shB, Bool.and_eq_true, decide_eq_true_eq, List.all_eq_true] at this; exact this
  have htot : ∀ l : List Att, (∀ a ∈ l, a.2.length ≤ 8) → total l ≤ l.length * 8 := by
    intro l
    induction l with
    | nil => intro _; simp [total]
    | cons a l ih =>
      intro h; have h1 := h a (by simp); have h2 := ih (fun b hb => h b (by simp [hb])); have : total (a :: l) = a.2.length + total l := by simp [total]
      simp only [List.length_cons]; omega
  have := htot e.2 (fun a ha => (hv a ha).2.1); refine ⟨⟨⟨⟨by omega, fun a ha => ?_⟩, by omega⟩, fun a ha v hva => ?_⟩, by simpa [shB] using h1⟩
  · obtain ⟨q1, q2, _⟩ := hv a ha; exact ⟨by omega, by omega⟩
  · have := (hv a ha).2.2 v hva; omega
def treeF (E : List Ent) (e : Ent) : List Ent := (addE E e.1 e.2).1
def treeK (l : List Ent) (k : Nat) : List Ent := (l.take k).foldl treeF Y1
def treeU (l : List Ent) : List Ent := l.foldl treeF Y1
theorem treeK_succ {l : List Ent} {k : Nat} (h : k < l.length) : treeK l (k + 1) = treeF (treeK l k) l[k] := by
  unfold treeK; rw [take_s h, List.foldl_append]; rfl
theorem treeK_all (l : List Ent) : treeK l l.length = treeU l := by unfold treeK treeU; rw [List.take_length]
theorem addE_err {E : List Ent} {n : Str} {a : List Att} (h : (addE E n a).2 ≠ 0) : (addE E n a).1 = E := by
  unfold addE at h ⊢; split
  · rfl
  split
  · rfl
  split
  · rfl
  split
  · rfl
  rename_i h1 h2 h3 h4
  rw [if_neg h1, if_neg h2, if_neg h3, if_neg h4] at h; exact absurd rfl h
theorem treeY1 : TI Y1 ∧ FE Y1 ∧ FR Y1 := by
  have := new_ok (R := [yO]) (by rw [y1]); rw [y1] at this; exact ⟨this.1, this.2.1, fun e he => by
    simp only [Y1, List.mem_singleton] at he; subst he; exact fit_at0⟩
def FitEs (l : List Ent) : Prop := ∀ e ∈ l, List.length e.1 < 900000 ∧ FitR e.2
theorem treeF_ok {E : List Ent} (h : TI E ∧ FE E ∧ FR E) {e : Ent} (he : FitR e.2) : TI (treeF E e) ∧ FE (treeF E e) ∧ FR (treeF E e) :=
  ⟨h.1.add e.1 e.2, h.2.1.add e.1 he.1, h.2.2.add e.1 he⟩
theorem treeK_ok {l : List Ent} (hl : FitEs l) : ∀ k, k ≤ l.length → TI (treeK l k) ∧ FE (treeK l k) ∧ FR (treeK l k)
  | 0, _ => by simpa [treeK] using treeY1
  | k + 1, hk => by
    rw [treeK_succ (by omega)]; exact treeF_ok (treeK_ok hl k (by omega)) (hl _ (gmm _)).2
theorem treeU_ok {l : List Ent} (hl : FitEs l) : TI (treeU l) ∧ FE (treeU l) ∧ FR (treeU l) := by
  rw [← treeK_all]; exact treeK_ok hl _ (Nat.le_refl _)
def TqI (l : List Ent) (k : Nat) (τ : St) : Prop := ∃ p u X q, τ 0 = .d (entsD l) ∧ τ 4 = .d (.raw (va p)) ∧ τ 6 = .d (.raw (va q)) ∧ τ 8 = .d (.int .i64 k) ∧
  τ 1000000 = .hb (va p) 125 (.agg [.raw (.map (some u))]) ∧ τ 1000001 = .hm (.map (some u)) 9 (mapE (treeK l k)) X ∧ τ 1000002 = .hb (va q) 140 (.agg [.bool true, strs [yO], entsD (treeK l k)])
theorem trees_fn (l : List Ent) (hl : FitEs l) (hlen : l.length < 100000) : CtrG prog 19 [.d (entsD l)] [] (fun r hs' => ∃ p u q X, r = .tup [.d (.raw (va p)), .d (.raw (va q))] ∧ hs' = tr p u (treeU l) X ++ rtr q (strs [yO]) (entsD (treeU l))) := by
  refine fn_of_vwpGN (rs := [.tmp 2, .tmp 3]) (fun i => i == 5000011 || i == 5000016 || i == 5000033 || i == 5000040) (by kernel_rfl) func19 (by kernel_rfl) rfl rfl (by simp) (nbl rfl) (by kernel_rfl) rfl ?_; have c1 := tnew_fn [yO] (by simp [yO]); have c2 := rnew_fn [yO] (by simp [yO]); rw [y1] at c1 c2; have hY : treeK l 0 = Y1 := by simp [treeK]
  rw [← hY] at c1 c2; simp only [strs, List.map_cons, List.map_nil, yO] at c1 c2; simp -implicitDefEqProofs [initG, entsD]; repeat refine And.intro (by first | omega | rfl) ?_
  refine givB [] 1000000 c1 (by simp) rfl (by simp) ?_; rintro r hs' (⟨h, _⟩ | ⟨_, p, u, rfl, rfl⟩)
  · exact absurd rfl h
  simp -implicitDefEqProofs [initG, takeH, putH, tr]; repeat refine And.intro (by first | omega | rfl) ?_
  refine givB [] 1000002 c2 (by simp) rfl (by simp) ?_; rintro r hs' (⟨h, _⟩ | ⟨_, q, rfl, rfl⟩)
  · exact absurd rfl h
  simp -implicitDefEqProofs [initG, takeH, putH, rtr]; refine loopN l.length (TqI l) ⟨p, u, none, q, by simp [entsD, initG], by simp, by simp, by simp, by simp, by simp, by simp [strs, yO]⟩ ?_; clear c1 c2 hY p u q; rintro k τ hk ⟨p, u, X, q, g0, g4, g6, g8, gA, gB, gC⟩; obtain ⟨hT, hF, hR⟩ := treeK_ok hl k hk; have hwR : width (strs [yO]) = 1 := rfl; by_cases hlt : k < l.length
  · have hlt' : (k : Int) < l.length := by omega
    have hN := treeK_succ hlt; obtain ⟨h1, h2⟩ := hl _ (gmm hlt); have hfew := hT.few; have c3 := fun q => radd_fn q (strs [yO]) hwR (treeK l k) (by omega) (key_len hT) l[k].1 l[k].2 h1 h2.1
    have c4 := fun p u X => tadd_fn p u (treeK l k) X l[k].1 l[k].2 h1 h2.1
    have hee := @addE_err (treeK l k) l[k].1 l[k].2; unfold treeF at hN; generalize hx : l[k] = e at *; obtain ⟨n, a⟩ := e; try simp only at hN hee c3 c4
    generalize treeK l k = E1 at *; generalize hE2 : treeK l (k + 1) = E2 at *; generalize addE E1 n a = V at *; obtain ⟨E3, er⟩ := V; try simp only at hN hee c3 c4
    subst hN; simp only [entD, atts] at c3 c4; by_cases h0 : er = 0
    · subst h0; simp -implicitDefEqProofs [g0, g4, g6, g8, gA, gB, gC, hlt, hlt', hx, entsD, entD, atts]; refine givB [1000002] 1000002 (c3 q) (by simp [gC, rtr, entsD, entD, atts]) rfl (by simp) ?_; rintro r hs' ⟨rfl, rfl⟩; simp -implicitDefEqProofs [g0, g4, g6, g8, gA, gB, gC, hlt, hlt', hx, entsD, entD, atts, takeH, putH, rtr]; refine givB [1000000, 1000001] 1000000 (c4 p u X) (by simp [gA, gB, tr]) rfl (by simp) ?_; rintro r hs' ⟨rfl, X1, rfl⟩; simp -implicitDefEqProofs [g0, g4, g6, g8, gA, gB, gC, entsD, entD, atts, takeH, putH, tr]; repeat refine And.intro (by first | omega | rfl) ?_
      exact again hlt ⟨p, u, X1, q, by simp [g0, entsD, entD, atts], by simp [g4], by simp [g6], by simp, by simp, by simp [hE2], by simp [hE2, entsD, entD, atts]⟩
    · have he := hee h0; subst he; simp -implicitDefEqProofs [g0, g4, g6, g8, gA, gB, gC, hlt, hlt', hx, entsD, entD, atts]; refine givB [1000002] 1000002 (c3 q) (by simp [gC, rtr, entsD, entD, atts]) rfl (by simp) ?_; rintro r hs' ⟨rfl, rfl⟩; simp -implicitDefEqProofs [g0, g4, g6, g8, gA, gB, gC, hlt, hlt', hx, entsD, entD, atts, takeH, putH, rtr, h0]; repeat refine And.intro (by first | omega | rfl) ?_
      exact again hlt ⟨p, u, X, q, by simp [g0, entsD, entD, atts], by simp [g4], by simp [g6], by simp, by simp [gA], by simp [hE2, gB], by simp [hE2, entsD, entD, atts]⟩
  · have hlt' : ¬ (k : Int) < l.length := by omega
    obtain rfl : k = l.length := by omega
    rw [treeK_all] at gB gC; simp -implicitDefEqProofs [g0, g4, g6, g8, gA, gB, gC, hlt', entsD]; exact ⟨[.d (.raw (va p)), .d (.raw (va q))], [1000000, 1000001, 1000002], by simp, by simp [gA, gB, gC, isH], by simp [resDs, resD], p, u, q, rfl, X, by simp [gA, gB, gC, tr, rtr, entsD]⟩
theorem lgtB_all {s : Sch} {l : List Ent} (h : lgtB s l = true) : (∀ e ∈ l, entB e = true) ∧ l.length ≤ 12 := by
  unfold lgtB at h; simp only [Bool.and_eq_true, List.all_eq_true, decide_eq_true_eq] at h; obtain ⟨h1, h2, h3, _⟩ := h; rw [ttl h3] at h1; exact ⟨h1, h3⟩
theorem lgtB_fit {s : Sch} {l : List Ent} (h : lgtB s l = true) : FitEs l := fun e he => by
  obtain ⟨h1, h2⟩ := entB_fit ((lgtB_all h).1 e he); exact ⟨by omega, h1⟩
theorem referU_len (s : Sch) (E : List Ent) (to : Str) : (referU s E to).length ≤ E.length := by
  unfold referU; split
  · simp
  · rw [List.length_map]; exact List.length_filter_le _ _
theorem brokenU_len {s : Sch} {E : List Ent} (hE : TI E) (hR : FR E) : (brokenU s E).length < 140000000 := by
  rw [← brkP_all]; have h1 := brkP_len (s := s) hR E.length (Nat.le_refl _); have h2 := hE.few; have h3 : E.length * 500000 ≤ 256 * 500000 := Nat.mul_le_mul_right _ h2; omega
theorem law4_fn (s : Sch) (hs : FitSch s) (l : List Ent) (to : Str) : Ctr prog 4 [.d (schD s), .d (entsD l), .d (.str to)] (.d (.bool true)) := by
  refine fn_of_vwpF (fun i => i == 5000021 || i == 5000028 || i == 5000031 || i == 5000037 || i == 5000041 || i == 20000006) (by kernel_rfl) func4 (by kernel_rfl) rfl rfl (nbl rfl) (by kernel_rfl) rfl rfl ?_; have c1 := light_fn s l; have cA := awake_fn; have hsd : schD s = .agg [.sl (s.1.map tyD), .sl (s.2.map clD)] := rfl; rw [hsd] at c1 ⊢; simp only [entsD] at c1; cases hL : lgtB s l with
  | false =>
    rw [hL] at c1; simp -implicitDefEqProofs [entsD]; refine callK c1 ?_; simp -implicitDefEqProofs; refine callK cA ?_; simp -implicitDefEqProofs
  | true =>
  rw [hL] at c1; by_cases h2 : List.length to ≤ 300
  case neg =>
    have h2' : (300 : Int) < List.length to := by omega
    simp -implicitDefEqProofs [entsD]; refine callK c1 ?_; simp -implicitDefEqProofs [h2']; refine callK cA ?_; simp -implicitDefEqProofs
  have h2' : ¬ (300 : Int) < List.length to := by omega
  have hfit := lgtB_fit hL; have hlen := (lgtB_all hL).2; obtain ⟨hT, hF, hR⟩ := treeU_ok hfit; have hk := key_len hT; have hfew := hT.few; have hwR : width (strs [yO]) = 1 := rfl; have c2 := trees_fn l hfit (by omega); have c3 := fun p u X => broken_fn p u (treeU l) X hT hF hR s hs
  have c4 := fun q => rbroken_fn q (strs [yO]) hwR (treeU l) hT hR hk s hs
  have c5 := samePairs_fn (brokenU s (treeU l)) (brokenU_len hT hR); have c6 := fun p u X => referrers_fn p u (treeU l) X hT hF hR s hs to (by omega)
  have c7 := fun q => rreferrers_fn q (strs [yO]) hwR (treeU l) hT hR hk s hs to (by omega)
  have hrl := referU_len s (treeU l) to; have c8 := same_fn (referU s (treeU l) to) (referU s (treeU l) to) (by omega) (by omega); have c9 := broken0_fn s; rw [decide_eq_true rfl] at c8; clear hrl hfew hT hF hR hk hfit; generalize brokenU s (treeU l) = B at *; generalize referU s (treeU l) to = G at *; generalize treeU l = E at *; rw [hsd] at c3 c4 c6 c7 c9; simp only [entsD, strs, pairs, List.map_cons, List.map_nil] at c2 c3 c4 c5 c6 c7 c8 c9; simp -implicitDefEqProofs [entsD]; refine callK c1 ?_; simp -implicitDefEqProofs [h2']; refine givB [] 1000000 c2 (by simp) rfl (by simp) ?_; rintro r hs' ⟨p, u, q, X, rfl, rfl⟩; simp -implicitDefEqProofs [takeH, putH, tr, rtr]; refine floK [0, 1, 3, 4, 2, 5, 6, 7, 8, 9, 10, 12, 13, 14, 11, 15, 16, 17, 18, 19, 20, 21, 22, 23, 24, 25, 26, 27] [26, 27, 28, 29, 30, 31, 32, 33, 34, 35, 36, 37, 38, 39, 40, 41, 42, 43, 44, 45, 46, 47, 48, 49, 50, 51, 52, 6] (by kernel_rfl) (by kernel_rfl) (by kernel_rfl) ?_; simp -implicitDefEqProofs; refine givF [1000000, 1000001] 1000000 (c3 p u X) (by simp [tr]) rfl (by simp) rfl (by omega) ?_; rintro r hs' ⟨rfl, X2, rfl⟩; refine ⟨rfl, ?_⟩; simp -implicitDefEqProofs [takeH, putH, tr, rtr]; refine givF [1000002] 1000002 (c4 q) (by simp [rtr, entsD]) rfl (by simp) rfl (by omega) ?_; rintro r hs' ⟨rfl, rfl⟩; refine ⟨rfl, ?_⟩; simp -implicitDefEqProofs [takeH, putH, tr, rtr]; refine callP c5 ?_; simp -implicitDefEqProofs [takeH, putH, tr, rtr]; refine givF [1000000, 1000001] 1000000 (c6 p u X2) (by simp [tr]) rfl (by simp) rfl (by omega) ?_; rintro r hs' ⟨rfl, X3, rfl⟩; refine ⟨rfl, ?_⟩; simp -implicitDefEqProofs [takeH, putH, tr, rtr]; refine givF [1000002] 1000002 (c7 q) (by simp [rtr, entsD]) rfl (by simp) rfl (by omega) ?_; rintro r hs' ⟨rfl, rfl⟩; refine ⟨rfl, ?_⟩; simp -implicitDefEqProofs [takeH, putH, tr, rtr]; refine callP c8 ?_; simp -implicitDefEqProofs [takeH, putH, tr, rtr]; refine callP c9 ?_; simp -implicitDefEqProofs [takeH, putH, tr, rtr]; refine callP cA ?_; simp -implicitDefEqProofs
end Go.Proofs.Tz
namespace Go.Proofs.Tz
open Go.Vw
theorem fits_str {d : D} (h : Sh.Fits .str d) : ∃ s : Str, d = .str s := by
  simp only [Sh.Fits] at h; obtain ⟨s, rfl, _⟩ := h; exact ⟨s, rfl⟩
theorem fits_list {α : Type} {s : Sh} (g : α → D) (hs : ∀ d, Sh.Fits s d → ∃ a, d = g a) {d : D} (h : Sh.Fits (.sl s) d) : ∃ l : List α, d = .sl (l.map g) := by
  simp only [Sh.Fits] at h; obtain ⟨ds, rfl, _, h⟩ := h; have : ∀ ds : List D, (∀ x ∈ ds, Sh.Fits s x) → ∃ l : List α, ds = l.map g := by
    intro ds
    induction ds with
    | nil => intro _; exact ⟨[], rfl⟩
    | cons x ds ih =>
      intro h; obtain ⟨a, rfl⟩ := hs x (h x (by simp)); obtain ⟨l, rfl⟩ := ih fun y hy => h y (by simp [hy])
      exact ⟨a :: l, rfl⟩
  obtain ⟨l, rfl⟩ := this ds h; exact ⟨l, rfl⟩
theorem fits_strs {d : D} (h : Sh.Fits (.sl .str) d) : ∃ l : List Str, d = strs l := fits_list _ (fun _ h => fits_str h) h
theorem fits_att {d : D} (h : Sh.Fits (.agg [.str, .sl .str]) d) : ∃ a : Att, d = att a := by
  simp only [Sh.Fits, Sh.FitsL] at h; obtain ⟨ds, rfl, x, xs, rfl, ⟨s, rfl, _⟩, y, ys, rfl, hy, rfl⟩ := h; obtain ⟨l, rfl⟩ := fits_strs (d := y) (by simp only [Sh.Fits]; exact hy); exact ⟨(s, l), rfl⟩
theorem fits_atts {d : D} (h : Sh.Fits (.sl (.agg [.str, .sl .str])) d) : ∃ l : List Att, d = atts l := fits_list _ (fun _ h => fits_att h) h
end Go.Proofs.Tz
namespace Go.Proofs.Tz
open Go.Vw Go.RowKit Go.Proofs
theorem fits_ty {d : D} (h : Sh.Fits (.agg [.str, .int .i64, .bool]) d) : ∃ x : Ty, d = tyD x := by
  simp only [Sh.Fits, Sh.FitsL] at h; obtain ⟨ds, rfl, x, xs, rfl, ⟨s, rfl, _⟩, y, ys, rfl, ⟨i, rfl, _⟩, z, zs, rfl, ⟨b, rfl⟩, rfl⟩ := h; exact ⟨(s, i, b), rfl⟩
theorem fits_cl {d : D} (h : Sh.Fits (.agg [.str, .str, .sl (.str), .sl (.str)]) d) : ∃ x : Cl, d = clD x := by
  simp only [Sh.Fits, Sh.FitsL] at h; obtain ⟨ds, rfl, x, xs, rfl, ⟨s, rfl, _⟩, y, ys, rfl, ⟨t, rfl, _⟩, z, zs, rfl, hz, q, qs, rfl, hq, rfl⟩ := h; obtain ⟨l, rfl⟩ := fits_strs (by simpa only [Sh.Fits, Sh.FitsL] using hz); obtain ⟨m, rfl⟩ := fits_strs (by simpa only [Sh.Fits, Sh.FitsL] using hq); exact ⟨(s, t, l, m), rfl⟩
theorem fits_sch {d : D} (h : Sh.Fits (.agg [.sl (.agg [.str, .int .i64, .bool]), .sl (.agg [.str, .str, .sl (.str), .sl (.str)])]) d) : ∃ x : Sch, d = schD x := by
  have h' : ∃ ds, d = .agg ds ∧ ∃ x xs, ds = x :: xs ∧ Sh.Fits (.sl (.agg [.str, .int .i64, .bool])) x ∧ ∃ y ys, xs = y :: ys ∧ Sh.Fits (.sl (.agg [.str, .str, .sl (.str), .sl (.str)])) y ∧ ys = [] := by
    rw [Sh.Fits] at h; obtain ⟨ds, rfl, h⟩ := h; rw [Sh.FitsL] at h; obtain ⟨x, xs, rfl, h1, h⟩ := h; rw [Sh.FitsL] at h; obtain ⟨y, ys, rfl, h2, h⟩ := h; rw [Sh.FitsL] at h; exact ⟨_, rfl, x, _, rfl, h1, y, _, rfl, h2, h⟩
  obtain ⟨ds, rfl, x, xs, rfl, h1, y, ys, rfl, h2, rfl⟩ := h'; obtain ⟨T, rfl⟩ := fits_list tyD (fun _ h => fits_ty h) h1; obtain ⟨C, rfl⟩ := fits_list clD (fun _ h => fits_cl h) h2; exact ⟨(T, C), rfl⟩
theorem fits_ent {d : D} (h : Sh.Fits (.agg [.str, .sl (.agg [.str, .sl (.str)])]) d) : ∃ x : Ent, d = entD x := by
  simp only [Sh.Fits, Sh.FitsL] at h; obtain ⟨ds, rfl, x, xs, rfl, ⟨s, rfl, _⟩, y, ys, rfl, hy, rfl⟩ := h; obtain ⟨l, rfl⟩ := fits_atts (by simpa only [Sh.Fits, Sh.FitsL] using hy); exact ⟨(s, l), rfl⟩
theorem fits_ents {d : D} (h : Sh.Fits (.sl (.agg [.str, .sl (.agg [.str, .sl (.str)])])) d) : ∃ l : List Ent, d = entsD l := fits_list _ (fun _ h => fits_ent h) h
theorem lim_strs {R : Nat} {l : List Str} (h : D.lim R (strs l)) : l.length ≤ R ∧ ∀ s ∈ l, List.length s ≤ R := by
  simp only [strs, D.lim, D.lims_mem, List.length_map, List.mem_map] at h; exact ⟨h.1, fun s hs => by simpa [D.lim] using h.2 _ ⟨s, hs, rfl⟩⟩
theorem fitSch_of {s : Sch} (h : D.lim 140737488351232 (schD s)) : FitSch s := by
  obtain ⟨T, C⟩ := s; simp only [schD, D.lim, D.lims] at h; obtain ⟨⟨h1, h2⟩, ⟨h3, h4⟩, _⟩ := h; rw [D.lims_mem] at h2 h4; simp only [List.length_map] at h1 h3; refine ⟨h1, h3, fun t ht => ?_, fun c hc => ?_⟩
  · have := h2 _ (List.mem_map.2 ⟨t, ht, rfl⟩); simp only [tyD, D.lim, D.lims] at this; exact this.1
  · have := h4 _ (List.mem_map.2 ⟨c, hc, rfl⟩); simp only [clD, D.lim, D.lims] at this; obtain ⟨q1, q2, q3, q4, _⟩ := this; exact ⟨q1, q2, lim_strs q3, lim_strs q4⟩
theorem RefintBroken_ok (s : Sch) (l : List Ent) (to : Str) (hb : D.lims 140737488351232 [schD s, entsD l, .str to]) : Ctr prog 4 [.d (schD s), .d (entsD l), .d (.str to)] (.d (.bool true)) := law4_fn s (fitSch_of hb.1) l to
end Go.Proofs.Tz