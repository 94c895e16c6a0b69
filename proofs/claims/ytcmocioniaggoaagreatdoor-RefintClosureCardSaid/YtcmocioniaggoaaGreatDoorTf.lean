/-
  What the functions that the statements about references reach compute, part 6 of 6: contracts and plain laws, for lists and strings of bounded size (each theorem states its bound).
-/import Derived.Test.YtcmocioniaggoaaGreatDoorTe
import Derived.Test.YtcmocioniaggoaaGreatDoorTc
import Derived.Test.YtcmocioniaggoaaGreatDoorTd
import Derived.Test.YtcmocioniaggoaaGreatDoorWd
import Derived.Test.YtcmocioniaggoaaGreatDoorTa
import Derived.Test.YtcmocioniaggoaaGreatDoorWc
set_option linter.unusedSimpArgs false
set_option linter.unusedVariables false
set_option maxRecDepth 100000
set_option maxHeartbeats 8000000
namespace Go.Proofs.Tz
open Go.Vw Go.RowKit Go.Proofs Go.Sort
theorem ks_cases {E : List Ent} (hR : FR E) (n : Str) : (getE E n = none ∧ ksE E n = none) ∨ (∃ a, getE E n = some a ∧ FitR a ∧ isGrp a = false ∧ ksE E n = some none) ∨ (∃ a, getE E n = some a ∧ FitR a ∧ isGrp a = true ∧ ksE E n = some (some (listedR a))) := by
  cases hg : getE E n with
  | none => exact .inl ⟨rfl, by simp [ksE, hg]⟩
  | some a =>
    have ha := hR _ (getE_in hg)
    cases hb : isGrp a with
    | false => exact .inr (.inl ⟨a, rfl, ha, hb, by simp [ksE, hg, hb]⟩)
    | true => exact .inr (.inr ⟨a, rfl, ha, hb, by simp [ksE, hg, hb]⟩)
theorem listedR_len {A : List Att} (h : FitR A) : (listedR A).length < 500000 := by
  unfold listedR
  exact Nat.lt_of_le_of_lt (List.length_filterMap_le _ _) (getL_lt h.1 sMember)
def yO : Str := [111, 61, 120]
def yA : Str := [99, 110, 61, 97, 44, 111, 61, 120]
def yB : Str := [99, 110, 61, 98, 44, 111, 61, 120]
def yG : Str := [99, 110, 61, 103, 44, 111, 61, 120]
def yH : Str := [99, 110, 61, 104, 44, 111, 61, 120]
def yZ : Str := [99, 110, 61, 122, 44, 111, 61, 120]
def yK : Str := [99, 110, 61, 107, 44, 111, 61, 120]
def yBs : Str := [99, 110, 61, 98, 44, 32, 111, 61, 120]
def yHC : Str := [67, 78, 61, 104, 44, 111, 61, 120]
def yBC : Str := [67, 78, 61, 98, 44, 111, 61, 120]
def yGroup : Str := [71, 114, 111, 117, 112]
def atG : List Att := [(sClass, [yGroup]), (sMember, [yHC, yA])]
def atH : List Att := [(sClass, [sGroup]), (sMember, [yG, yBs, yZ])]
def atH2 : List Att := [(sClass, [sGroup]), (sMember, [yBs, yG, yZ])]
def ysch : Sch := ([(sClass, 1, false), (sMember, 4, false)], [])
def Y1 : List Ent := [(yO, [])]
def Y2 : List Ent := [(yO, []), (yA, [])]
def Y3 : List Ent := [(yO, []), (yA, []), (yB, [])]
def Y4 : List Ent := [(yO, []), (yA, []), (yB, []), (yG, atG)]
def Y5 : List Ent := [(yO, []), (yA, []), (yB, []), (yG, atG), (yH, atH2)]
theorem y1 : newE [yO] = (Y1, 0) := by kernel_rfl
theorem y2 : addE Y1 yA [] = (Y2, 0) := by kernel_rfl
theorem y3 : addE Y2 yB [] = (Y3, 0) := by kernel_rfl
theorem y4 : addE Y3 yG atG = (Y4, 0) := by kernel_rfl
theorem y5 : addE Y4 yH atH = (Y5, 0) := by kernel_rfl
theorem fit_atG : FitR atG := ⟨⟨⟨by decide, by decide⟩, by decide⟩, by decide⟩
theorem fit_atH : FitR atH := ⟨⟨⟨by decide, by decide⟩, by decide⟩, by decide⟩
theorem fit_at0 : FitR [] := ⟨⟨⟨by decide, by decide⟩, by decide⟩, by decide⟩
theorem FR.add {E : List Ent} (h : FR E) (n : Str) {a : List Att} (ha : FitR a) : FR (addE E n a).1 := by
  unfold addE
  repeat' split
  all_goals try exact h
  intro e he
  rcases insE_mem.1 he with rfl | he
  · exact ha.sorted
  · exact h e he
theorem tiY5 : TI Y5 ∧ FE Y5 ∧ FR Y5 := by
  have h := new_ok (R := [yO]) (by rw [y1])
  rw [y1] at h
  have a1 := h.1
  have b1 := h.2.1
  have d1 : FR Y1 := fun e he => by
    rw [List.mem_singleton.1 he]; exact fit_at0
  have a2 := a1.add yA []
  have b2 := b1.add yA fit_at0.1
  have d2 := d1.add yA fit_at0
  simp only at a2 b2 d2
  rw [y2] at a2 b2 d2
  have a3 := a2.add yB []
  have b3 := b2.add yB fit_at0.1
  have d3 := d2.add yB fit_at0
  simp only at a3 b3 d3
  rw [y3] at a3 b3 d3
  have a4 := a3.add yG atG
  have b4 := b3.add yG fit_atG.1
  have d4 := d3.add yG fit_atG
  simp only at a4 b4 d4
  rw [y4] at a4 b4 d4
  have a5 := a4.add yH atH
  have b5 := b4.add yH fit_atH.1
  have d5 := d4.add yH fit_atH
  simp only at a5 b5 d5
  rw [y5] at a5 b5 d5
  exact ⟨a5, b5, d5⟩
theorem fit_ysch : FitSch ysch := ⟨by decide, by decide, fun t ht => by
  unfold FitTy
  rcases List.mem_cons.1 ht with rfl | ht
  · decide
  · rw [List.mem_singleton.1 ht]; decide, fun c hc => by cases hc⟩
theorem key_len {E : List Ent} (h : TI E) : ∀ e ∈ E, List.length e.1 < 900000 := fun e he => h.klen (List.mem_map.2 ⟨e, he, rfl⟩)
theorem ks_G : ksE Y5 yG = some (some [yH, yA]) := by kernel_rfl
theorem ks_H : ksE Y5 yH = some (some [yB, yG, yZ]) := by kernel_rfl
theorem ks_A : ksE Y5 yA = some none := by kernel_rfl
theorem ks_B : ksE Y5 yB = some none := by kernel_rfl
theorem ks_O : ksE Y5 yO = some none := by kernel_rfl
theorem dfs_G : dfsU (ksE Y5) (keysE Y5) yG = [yB, yA] := by kernel_rfl
theorem dfs_H : dfsU (ksE Y5) (keysE Y5) yH = [yB, yA] := by kernel_rfl
theorem ns_AB : NS [yA, yB] := by
  refine List.pairwise_cons.2 ⟨fun x hx => ?_, List.pairwise_singleton _ _⟩
  rw [List.mem_singleton.1 hx]
  have : cmpN yA yB = -1 := by kernel_rfl
  show cmpN yA yB < 0
  rw [this]; decide
theorem mem_G : membersU Y5 yG = some [yA, yB] := by
  unfold membersU
  rw [ks_G]
  simp only
  unfold memU
  rw [dfs_G, sort_names ns_AB (List.Perm.swap _ _ _)]
theorem mem_H : membersU Y5 yH = some [yA, yB] := by
  unfold membersU
  rw [ks_H]
  simp only
  unfold memU
  rw [dfs_H, sort_names ns_AB (List.Perm.swap _ _ _)]
theorem mt_G : memT Y5 yG = ([yA, yB], 0) := by unfold memT; rw [mem_G]
theorem mt_A : memT Y5 yA = ([], 6) := by unfold memT membersU; rw [ks_A]
theorem gr_B : groupsU Y5 yB = [yG, yH] := by
  have e : keysE Y5 = [yO, yA, yB, yG, yH] := rfl
  have q : ∀ g, (match membersU Y5 g with | some l => decide (yB ∈ l) | none => false) = memQ Y5 yB g := fun g => rfl
  have m1 : memQ Y5 yB yO = false := by unfold memQ membersU; rw [ks_O]
  have m2 : memQ Y5 yB yA = false := by unfold memQ membersU; rw [ks_A]
  have m3 : memQ Y5 yB yB = false := by unfold memQ membersU; rw [ks_B]
  have m4 : memQ Y5 yB yG = true := by unfold memQ; rw [mem_G]; decide
  have m5 : memQ Y5 yB yH = true := by unfold memQ; rw [mem_H]; decide
  show (keysE Y5).filter (memQ Y5 yB) = _
  rw [e]
  simp only [List.filter_cons, List.filter_nil, m1, m2, m3, m4, m5, Bool.false_eq_true, if_false, if_true]
theorem bk_Y : brokenU ysch Y5 = [(yH, yZ)] := by kernel_rfl
theorem gt_H : getT Y5 yH = ((yH, atH2), true) := by kernel_rfl
theorem rf_H : refsU ysch atH2 = [yB, yG, yZ] := by kernel_rfl
theorem rn_H : renamedU ysch atH2 yG yK = [(3, sMember, [yBs, yK, yZ])] := by kernel_rfl
theorem rm_H : removedU ysch atH2 yBC = [(2, sMember, [yBs])] := by kernel_rfl
theorem rr_H : referU ysch Y5 yH = [yG] := by kernel_rfl
theorem fit_atH2 : FitR atH2 := ⟨⟨⟨by decide, by decide⟩, by decide⟩, by decide⟩
set_option maxHeartbeats 16000000
theorem sample_fn : CtrG Tryz.prog 44 [] [] (fun r hs' => ∃ p u, r = .tup [.d (schD ysch), .d (.raw (va p))] ∧ TR p u Y5 hs') := by
  refine fn_of_vwpGN (rs := [.cell 0 25, .tmp 1]) (fun i => i == 5000011 || i == 5000019 || i == 5000022 || i == 5000030 || i == 5000038) (by kernel_rfl) Tryz.func44 (by kernel_rfl) rfl rfl (by simp) (Nat.le_of_ble_eq_true rfl) (by kernel_rfl) rfl ?_
  have c1 := tnew_fn [yO] (by simp [yO])
  have c2 := fun p u X => tadd_fn p u Y1 X yA [] (by decide) fit_at0.1
  have c3 := fun p u X => tadd_fn p u Y2 X yB [] (by decide) fit_at0.1
  have c4 := fun p u X => tadd_fn p u Y3 X yG atG (by decide) fit_atG.1
  have c5 := fun p u X => tadd_fn p u Y4 X yH atH (by decide) fit_atH.1
  rw [y1] at c1
  simp only [y2] at c2
  simp only [y3] at c3
  simp only [y4] at c4
  simp only [y5] at c5
  generalize Y1 = E1 at *
  generalize Y2 = E2 at *
  generalize Y3 = E3 at *
  generalize Y4 = E4 at *
  generalize Y5 = E5 at *
  simp only [entD, atts, att, strs, List.map_cons, List.map_nil, yO, yA, yB, yG, yH, yHC, yBs, yZ, yGroup, atG, atH, sClass, sMember, sGroup] at c1 c2 c3 c4 c5
  simp only [schD, ysch, tyD, sClass, sMember, List.map_cons, List.map_nil]
  simp -implicitDefEqProofs [initG]
  repeat refine And.intro (by first | omega | rfl) ?_
  refine givB [] 1000000 c1 (by simp) rfl (by simp) ?_
  rintro r hs' (⟨h, _⟩ | ⟨_, p, u, rfl, rfl⟩)
  · exact absurd rfl h
  simp -implicitDefEqProofs [initG, takeH, putH, tr]
  repeat refine And.intro (by first | omega | rfl) ?_
  refine givB [1000000, 1000001] 1000000 (c2 p u none) (by simp [tr]) rfl (by simp) ?_
  rintro r hs' ⟨rfl, X1, rfl⟩
  simp -implicitDefEqProofs [initG, takeH, putH, tr]
  repeat refine And.intro (by first | omega | rfl) ?_
  refine givB [1000000, 1000001] 1000000 (c3 p u X1) (by simp [tr]) rfl (by simp) ?_
  rintro r hs' ⟨rfl, X2, rfl⟩
  simp -implicitDefEqProofs [initG, takeH, putH, tr]
  repeat refine And.intro (by first | omega | rfl) ?_
  refine givB [1000000, 1000001] 1000000 (c4 p u X2) (by simp [tr]) rfl (by simp) ?_
  rintro r hs' ⟨rfl, X3, rfl⟩
  simp -implicitDefEqProofs [initG, takeH, putH, tr]
  repeat refine And.intro (by first | omega | rfl) ?_
  refine givB [1000000, 1000001] 1000000 (c5 p u X3) (by simp [tr]) rfl (by simp) ?_
  rintro r hs' ⟨rfl, X4, rfl⟩
  simp -implicitDefEqProofs [initG, takeH, putH, tr]
  repeat refine And.intro (by first | omega | rfl) ?_
  exact ⟨[.d (.agg [.sl [.agg [.str [99, 108, 97, 115, 115], .int .i64 1, .bool false], .agg [.str [109, 101, 109, 98, 101, 114], .int .i64 4, .bool false]], .sl []]), .d (.raw (va p))], [1000000, 1000001], by simp, by simp [isH], by simp [resDs, resD], p, rfl, u, X4, by simp [tr]⟩
theorem awake_fn : Ctr Tryz.prog 10 [] (.d (.bool true)) := by
  refine fn_of_vwp (fun i => i == 5000015 || i == 5000022 || i == 5000027 || i == 5000031 || i == 5000034 || i == 5000037 || i == 5000132) (by kernel_rfl) Tryz.func10 (by kernel_rfl) rfl rfl (Nat.le_of_ble_eq_true rfl) (by kernel_rfl) rfl rfl ?_
  obtain ⟨hT, hF, hR⟩ := tiY5
  have hk := key_len hT
  have c0 := sample_fn
  have c1 := fun p u X => members_fn p u Y5 X hT hF hR hk yG
  have c2 := fun p u X => members_fn p u Y5 X hT hF hR hk yA
  have c3 := fun p u X => groups_fn p u Y5 X hT hF hR hk yB
  have c4 := fun p u X => broken_fn p u Y5 X hT hF hR ysch fit_ysch
  have c5 := fun p u X => tget_fn p u Y5 X yH hF
  have c6 := refs_fn ysch (yH, atH2) fit_ysch fit_atH2
  have c7 := renamed_fn ysch fit_ysch (yH, atH2) fit_atH2 yG yK (by decide) (by decide)
  have c8 := removed_fn ysch fit_ysch (yH, atH2) fit_atH2 yBC (by decide)
  have c9 := fun p u X => referrers_fn p u Y5 X hT hF hR ysch fit_ysch yH (by decide)
  have s1 := same_fn [yA, yB] [yA, yB] (by decide) (by decide)
  have s2 := same_fn [yG, yH] [yG, yH] (by decide) (by decide)
  have s3 := same_fn [yB, yG, yZ] [yB, yG, yZ] (by decide) (by decide)
  have s4 := same_fn [yBs, yK, yZ] [yBs, yK, yZ] (by decide) (by decide)
  have s5 := same_fn [yBs] [yBs] (by decide) (by decide)
  have s6 := same_fn [yG] [yG] (by decide) (by decide)
  simp only [mt_G] at c1
  simp only [mt_A] at c2
  simp only [gr_B] at c3
  simp only [bk_Y] at c4
  simp only [gt_H] at c5
  simp only [rf_H] at c6
  simp only [rn_H] at c7
  simp only [rm_H] at c8
  simp only [rr_H] at c9
  simp only [decide_true] at s1 s2 s3 s4 s5 s6
  clear hT hF hR hk
  generalize Y5 = E at *
  have hsd : ∃ a b, schD ysch = .agg [a, b] ∧ width a = 1 ∧ width b = 1 := ⟨_, _, rfl, rfl, rfl⟩
  obtain ⟨sa, sb, hsd, hw1, hw2⟩ := hsd
  have hz : (schD ysch) = .agg [.sl (ysch.1.map tyD), .sl (ysch.2.map clD)] := rfl
  rw [hz] at c0 c4 c6 c7 c8 c9
  clear hsd hw1 hw2 sa sb hz
  generalize ysch.1.map tyD = S1 at *
  generalize ysch.2.map clD = S2 at *
  simp only [entD, atts, att, strs, pairs, pairD, mods, modD, List.map_cons, List.map_nil, yA, yB, yG, yH, yK, yBC, yBs, yZ, atH2, sClass, sMember, sGroup] at c0 c1 c2 c3 c4 c5 c6 c7 c8 c9 s1 s2 s3 s4 s5 s6
  simp -implicitDefEqProofs
  repeat refine And.intro (by first | omega | rfl) ?_
  refine givB [] 1000000 c0 (by simp) rfl (by simp) ?_
  rintro r hs' ⟨p, u, rfl, X0, rfl⟩
  simp -implicitDefEqProofs [takeH, putH, tr]
  repeat refine And.intro (by first | omega | rfl) ?_
  refine givB [1000000, 1000001] 1000000 (c1 p u X0) (by simp [tr]) rfl (by simp) ?_
  rintro r hs' ⟨rfl, rfl⟩
  simp -implicitDefEqProofs [takeH, putH, tr]
  repeat refine And.intro (by first | omega | rfl) ?_
  refine givB [1000000, 1000001] 1000000 (c2 p u X0) (by simp [tr]) rfl (by simp) ?_
  rintro r hs' ⟨rfl, rfl⟩
  simp -implicitDefEqProofs [takeH, putH, tr]
  repeat refine And.intro (by first | omega | rfl) ?_
  refine givB [1000000, 1000001] 1000000 (c3 p u X0) (by simp [tr]) rfl (by simp) ?_
  rintro r hs' ⟨rfl, X1, rfl⟩
  simp -implicitDefEqProofs [takeH, putH, tr]
  repeat refine And.intro (by first | omega | rfl) ?_
  refine givB [1000000, 1000001] 1000000 (c4 p u X1) (by simp [tr]) rfl (by simp) ?_
  rintro r hs' ⟨rfl, X2, rfl⟩
  simp -implicitDefEqProofs [takeH, putH, tr]
  repeat refine And.intro (by first | omega | rfl) ?_
  refine givB [1000000, 1000001] 1000000 (c5 p u X2) (by simp [tr]) rfl (by simp) ?_
  rintro r hs' ⟨rfl, rfl⟩
  simp -implicitDefEqProofs [takeH, putH, tr]
  repeat refine And.intro (by first | omega | rfl) ?_
  refine callK c6 ?_
  simp -implicitDefEqProofs
  repeat refine And.intro (by first | omega | rfl) ?_
  refine callK c7 ?_
  simp -implicitDefEqProofs
  repeat refine And.intro (by first | omega | rfl) ?_
  refine callK c8 ?_
  simp -implicitDefEqProofs
  repeat refine And.intro (by first | omega | rfl) ?_
  refine callK s1 ?_
  simp -implicitDefEqProofs
  repeat refine And.intro (by first | omega | rfl) ?_
  refine callK s2 ?_
  simp -implicitDefEqProofs
  repeat refine And.intro (by first | omega | rfl) ?_
  refine callK s3 ?_
  simp -implicitDefEqProofs
  repeat refine And.intro (by first | omega | rfl) ?_
  refine callK s4 ?_
  simp -implicitDefEqProofs
  repeat refine And.intro (by first | omega | rfl) ?_
  refine callK s5 ?_
  simp -implicitDefEqProofs
  repeat refine And.intro (by first | omega | rfl) ?_
  refine givB [1000000, 1000001] 1000000 (c9 p u X2) (by simp [tr]) rfl (by simp) ?_
  rintro r hs' ⟨rfl, X3, rfl⟩
  simp -implicitDefEqProofs [takeH, putH, tr]
  repeat refine And.intro (by first | omega | rfl) ?_
  refine callK s6 ?_
  simp -implicitDefEqProofs
end Go.Proofs.Tz
namespace Go.Proofs.Tz
open Go.Vw Go.RowKit Go.Proofs
def entB (e : Ent) : Bool := shB e.1 && (decide (e.2.length ≤ 8) && e.2.all attB)
def LeA (n : Str) (A : List Att) (k : Nat) (τ : St) : Prop := τ 1 = .box (entD (n, A)) ∧ τ 3 = .d (.int .i64 k) ∧ (A.take k).all attB = true
def LeB (n : Str) (A : List Att) (i : Nat) (V : List Str) (k : Nat) (τ : St) : Prop := τ 1 = .box (entD (n, A)) ∧ τ 3 = .d (.int .i64 i) ∧ τ 4 = .d (.int .i64 k) ∧ (V.take k).all shB = true
theorem lightEn_fn (e : Ent) : Ctr Tryz.prog 43 [.d (entD e)] (.d (.bool (entB e))) := by
  refine fn_of_vwp (fun _ => false) (by kernel_rfl) Tryz.func43 (by kernel_rfl) rfl rfl (Nat.le_of_ble_eq_true rfl) (by kernel_rfl) rfl rfl ?_
  obtain ⟨n, A⟩ := e
  have hed : entD (n, A) = .agg [.str n, .sl (A.map att)] := rfl
  obtain ⟨V, hV⟩ : ∃ V, entB (n, A) = V := ⟨_, rfl⟩
  rw [hV, hed]
  unfold entB at hV
  simp only at hV
  by_cases n1 : List.length n ≤ 300
  case neg =>
    have n1' : (300 : Int) < List.length n := by omega
    have hV0 : V = false := by rw [← hV]; simp [shB]; omega
    simp -implicitDefEqProofs [n1', hV0]
  have n1' : ¬ (300 : Int) < List.length n := by omega
  by_cases n3 : A.length ≤ 8
  case neg =>
    have n3' : (8 : Int) < A.length := by omega
    have hV0 : V = false := by rw [← hV]; simp [shB]; omega
    simp -implicitDefEqProofs [n1', n3', hV0]
  have n3' : ¬ (8 : Int) < A.length := by omega
  have hV : A.all attB = V := by rw [← hV]; simp [shB, n1, n3]
  simp -implicitDefEqProofs [n1', n3']
  refine loopN A.length (LeA n A) ⟨by simp [hed], by simp, by simp⟩ ?_
  rintro k τ hk ⟨g1, g3, hI⟩
  rw [hed] at g1
  by_cases hlt : k < A.length
  · have hlt' : (k : Int) < A.length := by omega
    have hts := take_all (f := attB) hlt
    have hbad : attB A[k] = false → V = false := fun h => by rw [← hV]; exact all_false hlt h
    generalize hx : A[k] = y at *
    obtain ⟨an, vs⟩ := y
    have hta : att (an, vs) = .agg [.str an, .sl (vs.map .str)] := rfl
    have haw : ∀ a : Att, width (att a) = 2 := fun _ => rfl
    by_cases m1 : List.length an ≤ 300
    case neg =>
      have m1' : (300 : Int) < List.length an := by omega
      have hV0 := hbad (by simp [attB, shB]; omega)
      simp -implicitDefEqProofs [g1, g3, hlt, hlt', hx, hta, m1', hV0]
    have m1' : ¬ (300 : Int) < List.length an := by omega
    by_cases m2 : vs.length ≤ 8
    case neg =>
      have m2' : (8 : Int) < vs.length := by omega
      have hV0 := hbad (by simp [attB, shB]; omega)
      simp -implicitDefEqProofs [g1, g3, hlt, hlt', hx, hta, m1', m2', hV0]
    have m2' : ¬ (8 : Int) < vs.length := by omega
    have hat : attB (an, vs) = vs.all shB := by simp [attB, shB, m1, m2]
    rw [hat] at hts hbad
    simp -implicitDefEqProofs [g1, g3, hlt, hlt', hx, hta, m1', m2']
    repeat refine And.intro (by first | omega | rfl) ?_
    refine loopN vs.length (LeB n A k vs) ⟨by simp [g1, hed], by simp [g3], by simp, by simp⟩ ?_
    rintro j τ2 hj ⟨q1, q3, q4, hJ⟩
    rw [hed] at q1
    by_cases hjt : j < vs.length
    · have hjt' : (j : Int) < vs.length := by omega
      have hts2 := take_all (f := shB) hjt
      have hbad2 : shB vs[j] = false → V = false := fun h => hbad (all_false hjt h)
      generalize hy : vs[j] = s at *
      by_cases hs : List.length s ≤ 300
      · have hs' : ¬ (300 : Int) < List.length s := by omega
        simp -implicitDefEqProofs [q1, q3, q4, hlt, hlt', hx, hta, hjt, hjt', hy, hs']
        repeat refine And.intro (by first | omega | rfl) ?_
        exact again hjt ⟨by simp [q1, hed], by simp [q3], by simp, by rw [hts2, hJ]; simp [shB, hs]⟩
      · have hs' : (300 : Int) < List.length s := by omega
        have hV0 := hbad2 (by simp [shB]; omega)
        simp -implicitDefEqProofs [q1, q3, q4, hlt, hlt', hx, hta, hjt, hjt', hy, hs', hV0]
    · have hjt' : ¬ (j : Int) < vs.length := by omega
      rw [List.take_of_length_le (by omega)] at hJ
      simp -implicitDefEqProofs [q1, q3, q4, hlt, hlt', hx, hta, hjt, hjt']
      repeat refine And.intro (by first | omega | rfl) ?_
      exact again hlt ⟨by simp [q1, hed], by simp, by rw [hts, hI, hJ]; rfl⟩
  · have hlt' : ¬ (k : Int) < A.length := by omega
    rw [List.take_of_length_le (by omega), hV] at hI
    simp -implicitDefEqProofs [g1, g3, hlt, hlt', hI]
def tyB (t : Ty) : Bool := shB t.1
def lgtB (s : Sch) (l : List Ent) : Bool := (l.take 12).all entB && ((s.1.take 20).all tyB && (decide (l.length ≤ 12) && (decide (s.1.length ≤ 20) && decide (s.2.length ≤ 20))))
def LgA (s : Sch) (l : List Ent) (k : Nat) (τ : St) : Prop := τ 2 = .box (schD s) ∧ τ 1 = .d (entsD l) ∧ τ 5 = .d (.int .i64 k) ∧ (l.take k).all entB = true
def LgB (s : Sch) (l : List Ent) (k : Nat) (τ : St) : Prop := τ 2 = .box (schD s) ∧ τ 1 = .d (entsD l) ∧ τ 6 = .d (.int .i64 k) ∧ (s.1.take k).all tyB = true
theorem light_fn (s : Sch) (l : List Ent) : Ctr Tryz.prog 9 [.d (schD s), .d (entsD l)] (.d (.bool (lgtB s l))) := by
  refine fn_of_vwp (fun _ => false) (by kernel_rfl) Tryz.func9 (by kernel_rfl) rfl rfl (Nat.le_of_ble_eq_true rfl) (by kernel_rfl) rfl rfl ?_
  obtain ⟨T, C⟩ := s
  have hsd : schD (T, C) = .agg [.sl (T.map tyD), .sl (C.map clD)] := rfl
  have hew : ∀ e : Ent, width (entD e) = 2 := fun _ => rfl
  obtain ⟨V, hV⟩ : ∃ V, lgtB (T, C) l = V := ⟨_, rfl⟩
  rw [hV]
  unfold lgtB at hV
  simp only at hV
  simp -implicitDefEqProofs [hsd, entsD]
  refine loopN (min l.length 12) (LgA (T, C) l) ⟨by simp [hsd], by simp [entsD], by simp, by simp⟩ ?_
  rintro k τ hk ⟨g2, g1, g5, hI⟩
  rw [hsd] at g2
  simp only [entsD] at g1
  by_cases hlt : k < min l.length 12
  · have b1 : k < l.length := by omega
    have b1' : (k : Int) < l.length := by omega
    have b2 : (k : Int) < 12 := by omega
    have hts := take_all (f := entB) b1
    have hbad : entB l[k] = false → V = false := fun h => by
      rw [← hV, all_false (k := k) (by simp; omega) (by simpa using h)]; rfl
    have c1 := lightEn_fn l[k]
    generalize hx : l[k] = e at *
    obtain ⟨n, A⟩ := e
    have hed : entD (n, A) = .agg [.str n, .sl (A.map att)] := rfl
    rw [hed] at c1
    cases hb : entB (n, A) with
    | true =>
      rw [hb] at c1 hts
      simp -implicitDefEqProofs [g2, g1, g5, b1, b1', b2, hx, hed]
      refine callK c1 ?_
      simp -implicitDefEqProofs [g2, g1, g5]
      repeat refine And.intro (by first | omega | rfl) ?_
      exact again hlt ⟨by simp [g2, hsd], by simp [g1, entsD], by simp, by rw [hts, hI]; rfl⟩
    | false =>
      rw [hb] at c1
      have hV0 := hbad hb
      simp -implicitDefEqProofs [g2, g1, g5, b1, b1', b2, hx, hed]
      refine callK c1 ?_
      simp -implicitDefEqProofs [g2, g1, g5, hV0]
  have hRA : (l.take 12).all entB = true := by
    have : l.take k = l.take 12 := by
      by_cases h6 : l.length ≤ 12
      · rw [List.take_of_length_le (by omega), List.take_of_length_le h6]
      · have : k = 12 := by omega
        rw [this]
    rw [← this]; exact hI
  rw [hRA, Bool.true_and] at hV
  have hgo : (¬ (k : Int) < l.length) ∨ ((k : Int) < l.length ∧ ¬ (k : Int) < 12) := by omega
  rcases hgo with h1 | ⟨h1, h2⟩
  all_goals
    first
      | simp -implicitDefEqProofs [g2, g1, g5, h1, h2]
      | simp -implicitDefEqProofs [g2, g1, g5, h1]
    refine loopN (min T.length 20) (LgB (T, C) l) ⟨by simp [g2, hsd], by simp [g1, entsD], by simp, by simp⟩ ?_
    rintro i τ2 hi ⟨q2, q1, q6, hJ⟩
    rw [hsd] at q2
    simp only [entsD] at q1
    by_cases hit : i < min T.length 20
    · have d1 : i < T.length := by omega
      have d1' : (i : Int) < T.length := by omega
      have d2 : (i : Int) < 20 := by omega
      have hts := take_all (f := tyB) d1
      have hbad : tyB T[i] = false → V = false := fun h => by
        rw [← hV, all_false (k := i) (by simp; omega) (by simpa using h)]; rfl
      generalize hy : T[i] = t at *
      obtain ⟨m, sy, sg⟩ := t
      have htd : tyD (m, sy, sg) = .agg [.str m, .int .i64 sy, .bool sg] := rfl
      by_cases hs : List.length m ≤ 300
      · have hs' : ¬ (300 : Int) < List.length m := by omega
        simp -implicitDefEqProofs [q2, q1, q6, d1, d1', d2, hy, htd, hs']
        repeat refine And.intro (by first | omega | rfl) ?_
        exact again hit ⟨by simp [q2, hsd], by simp [q1, entsD], by simp, by rw [hts, hJ]; simp [tyB, shB, hs]⟩
      · have hs' : (300 : Int) < List.length m := by omega
        have hV0 := hbad (by simp [tyB, shB]; omega)
        simp -implicitDefEqProofs [q2, q1, q6, d1, d1', d2, hy, htd, hs', hV0]
    · have hTA : (T.take 20).all tyB = true := by
        have : T.take i = T.take 20 := by
          by_cases h6 : T.length ≤ 20
          · rw [List.take_of_length_le (by omega), List.take_of_length_le h6]
          · have : i = 20 := by omega
            rw [this]
        rw [← this]; exact hJ
      rw [hTA, Bool.true_and] at hV
      have hgo2 : (¬ (i : Int) < T.length) ∨ ((i : Int) < T.length ∧ ¬ (i : Int) < 20) := by omega
      rcases hgo2 with e1 | ⟨e1, e2⟩
      all_goals
        by_cases w1 : l.length ≤ 12
        · have w1' : (l.length : Int) ≤ 12 := by omega
          by_cases w2 : T.length ≤ 20
          · have w2' : (T.length : Int) ≤ 20 := by omega
            by_cases w3 : C.length ≤ 20
            · have w3' : (C.length : Int) ≤ 20 := by omega
              simp only [w1, w2, w3, decide_true, Bool.and_self] at hV
              subst hV
              simp -implicitDefEqProofs [*]
            · have w3' : ¬ (C.length : Int) ≤ 20 := by omega
              simp only [w1, w2, w3, decide_true, decide_false, Bool.and_false] at hV
              subst hV
              simp -implicitDefEqProofs [*]
          · have w2' : ¬ (T.length : Int) ≤ 20 := by omega
            simp only [w1, w2, decide_true, decide_false, Bool.and_false, Bool.false_and] at hV
            subst hV
            simp -implicitDefEqProofs [*]
        · have w1' : ¬ (l.length : Int) ≤ 12 := by omega
          simp only [w1, decide_false, Bool.false_and] at hV
          subst hV
          simp -implicitDefEqProofs [*]
end Go.Proofs.Tz
namespace Go.Proofs.Tz
open Go.Vw Go.RowKit Go.Proofs Go.Sort
set_option maxHeartbeats 16000000
theorem entB_fit {e : Ent} (h : entB e = true) : FitR e.2 ∧ List.length e.1 ≤ 300 := by
  unfold entB at h
  simp only [Bool.and_eq_true, decide_eq_true_eq, List.all_eq_true] at h
  obtain ⟨h1, h2, h3⟩ := h
  have hv : ∀ a ∈ e.2, List.length a.1 ≤ 300 ∧ a.2.length ≤ 8 ∧ ∀ v ∈ a.2, List.length v ≤ 300 := fun a ha => by
    have := h3 a ha
    simp only [attB, shB, Bool.and_eq_true, decide_eq_true_eq, List.all_eq_true] at this
    exact this
  have htot : ∀ l : List Att, (∀ a ∈ l, a.2.length ≤ 8) → total l ≤ l.length * 8 := by
    intro l
    induction l with
    | nil => intro _; simp [total]
    | cons a l ih =>
      intro h
      have h1 := h a (by simp)
      have h2 := ih (fun b hb => h b (by simp [hb]))
      have : total (a :: l) = a.2.length + total l := by simp [total]
      simp only [List.length_cons]
      omega
  have := htot e.2 (fun a ha => (hv a ha).2.1)
  refine ⟨⟨⟨⟨by omega, fun a ha => ?_⟩, by omega⟩, fun a ha v hva => ?_⟩, by simpa [shB] using h1⟩
  · obtain ⟨q1, q2, _⟩ := hv a ha
    exact ⟨by omega, by omega⟩
  · have := (hv a ha).2.2 v hva
    omega
def treeF (E : List Ent) (e : Ent) : List Ent := (addE E e.1 e.2).1
def treeK (l : List Ent) (k : Nat) : List Ent := (l.take k).foldl treeF Y1
def treeU (l : List Ent) : List Ent := l.foldl treeF Y1
theorem treeK_succ {l : List Ent} {k : Nat} (h : k < l.length) : treeK l (k + 1) = treeF (treeK l k) l[k] := by
  unfold treeK; rw [take_s h, List.foldl_append]; rfl
theorem treeK_all (l : List Ent) : treeK l l.length = treeU l := by unfold treeK treeU; rw [List.take_length]
theorem addE_err {E : List Ent} {n : Str} {a : List Att} (h : (addE E n a).2 ≠ 0) : (addE E n a).1 = E := by
  unfold addE at h ⊢
  split
  · rfl
  split
  · rfl
  split
  · rfl
  split
  · rfl
  rename_i h1 h2 h3 h4
  rw [if_neg h1, if_neg h2, if_neg h3, if_neg h4] at h
  exact absurd rfl h
theorem treeY1 : TI Y1 ∧ FE Y1 ∧ FR Y1 := by
  have := new_ok (R := [yO]) (by rw [y1])
  rw [y1] at this
  exact ⟨this.1, this.2.1, fun e he => by
    simp only [Y1, List.mem_singleton] at he
    subst he
    exact fit_at0⟩
def FitEs (l : List Ent) : Prop := ∀ e ∈ l, List.length e.1 < 900000 ∧ FitR e.2
theorem treeF_ok {E : List Ent} (h : TI E ∧ FE E ∧ FR E) {e : Ent} (he : FitR e.2) : TI (treeF E e) ∧ FE (treeF E e) ∧ FR (treeF E e) :=
  ⟨h.1.add e.1 e.2, h.2.1.add e.1 he.1, h.2.2.add e.1 he⟩
theorem treeK_ok {l : List Ent} (hl : FitEs l) : ∀ k, k ≤ l.length → TI (treeK l k) ∧ FE (treeK l k) ∧ FR (treeK l k)
  | 0, _ => by simpa [treeK] using treeY1
  | k + 1, hk => by
    rw [treeK_succ (by omega)]
    exact treeF_ok (treeK_ok hl k (by omega)) (hl _ (List.getElem_mem _)).2
theorem treeU_ok {l : List Ent} (hl : FitEs l) : TI (treeU l) ∧ FE (treeU l) ∧ FR (treeU l) := by
  rw [← treeK_all]; exact treeK_ok hl _ (Nat.le_refl _)
def TqI (l : List Ent) (k : Nat) (τ : St) : Prop := ∃ p u X q, τ 0 = .d (entsD l) ∧ τ 4 = .d (.raw (va p)) ∧ τ 6 = .d (.raw (va q)) ∧ τ 8 = .d (.int .i64 k) ∧
  τ 1000000 = .hb (va p) 125 (.agg [.raw (.map (some u))]) ∧ τ 1000001 = .hm (.map (some u)) 9 (mapE (treeK l k)) X ∧ τ 1000002 = .hb (va q) 140 (.agg [.bool true, strs [yO], entsD (treeK l k)])
theorem trees_fn (l : List Ent) (hl : FitEs l) (hlen : l.length < 100000) : CtrG Tryz.prog 19 [.d (entsD l)] [] (fun r hs' => ∃ p u q X, r = .tup [.d (.raw (va p)), .d (.raw (va q))] ∧ hs' = tr p u (treeU l) X ++ rtr q (strs [yO]) (entsD (treeU l))) := by
  refine fn_of_vwpGN (rs := [.tmp 2, .tmp 3]) (fun i => i == 5000011 || i == 5000016 || i == 5000033 || i == 5000040) (by kernel_rfl) Tryz.func19 (by kernel_rfl) rfl rfl (by simp) (Nat.le_of_ble_eq_true rfl) (by kernel_rfl) rfl ?_
  have c1 := tnew_fn [yO] (by simp [yO])
  have c2 := rnew_fn [yO] (by simp [yO])
  rw [y1] at c1 c2
  have hY : treeK l 0 = Y1 := by simp [treeK]
  rw [← hY] at c1 c2
  simp only [strs, List.map_cons, List.map_nil, yO] at c1 c2
  simp -implicitDefEqProofs [initG, entsD]
  repeat refine And.intro (by first | omega | rfl) ?_
  refine givB [] 1000000 c1 (by simp) rfl (by simp) ?_
  rintro r hs' (⟨h, _⟩ | ⟨_, p, u, rfl, rfl⟩)
  · exact absurd rfl h
  simp -implicitDefEqProofs [initG, takeH, putH, tr]
  repeat refine And.intro (by first | omega | rfl) ?_
  refine givB [] 1000002 c2 (by simp) rfl (by simp) ?_
  rintro r hs' (⟨h, _⟩ | ⟨_, q, rfl, rfl⟩)
  · exact absurd rfl h
  simp -implicitDefEqProofs [initG, takeH, putH, rtr]
  refine loopN l.length (TqI l) ⟨p, u, none, q, by simp [entsD, initG], by simp, by simp, by simp, by simp, by simp, by simp [strs, yO]⟩ ?_
  clear c1 c2 hY p u q
  rintro k τ hk ⟨p, u, X, q, g0, g4, g6, g8, gA, gB, gC⟩
  obtain ⟨hT, hF, hR⟩ := treeK_ok hl k hk
  have hwR : width (strs [yO]) = 1 := rfl
  by_cases hlt : k < l.length
  · have hlt' : (k : Int) < l.length := by omega
    have hN := treeK_succ hlt
    obtain ⟨h1, h2⟩ := hl _ (List.getElem_mem hlt)
    have hfew := hT.few
    have c3 := fun q => radd_fn q (strs [yO]) hwR (treeK l k) (by omega) (key_len hT) l[k].1 l[k].2 h1 h2.1
    have c4 := fun p u X => tadd_fn p u (treeK l k) X l[k].1 l[k].2 h1 h2.1
    have hee := @addE_err (treeK l k) l[k].1 l[k].2
    unfold treeF at hN
    generalize hx : l[k] = e at *
    obtain ⟨n, a⟩ := e
    try simp only at hN hee c3 c4
    generalize treeK l k = E1 at *
    generalize hE2 : treeK l (k + 1) = E2 at *
    generalize addE E1 n a = V at *
    obtain ⟨E3, er⟩ := V
    try simp only at hN hee c3 c4
    subst hN
    simp only [entD, atts] at c3 c4
    by_cases h0 : er = 0
    · subst h0
      simp -implicitDefEqProofs [g0, g4, g6, g8, gA, gB, gC, hlt, hlt', hx, entsD, entD, atts]
      refine givB [1000002] 1000002 (c3 q) (by simp [gC, rtr, entsD, entD, atts]) rfl (by simp) ?_
      rintro r hs' ⟨rfl, rfl⟩
      simp -implicitDefEqProofs [g0, g4, g6, g8, gA, gB, gC, hlt, hlt', hx, entsD, entD, atts, takeH, putH, rtr]
      refine givB [1000000, 1000001] 1000000 (c4 p u X) (by simp [gA, gB, tr]) rfl (by simp) ?_
      rintro r hs' ⟨rfl, X1, rfl⟩
      simp -implicitDefEqProofs [g0, g4, g6, g8, gA, gB, gC, entsD, entD, atts, takeH, putH, tr]
      repeat refine And.intro (by first | omega | rfl) ?_
      exact again hlt ⟨p, u, X1, q, by simp [g0, entsD, entD, atts], by simp [g4], by simp [g6], by simp, by simp, by simp [hE2], by simp [hE2, entsD, entD, atts]⟩
    · have he := hee h0
      subst he
      simp -implicitDefEqProofs [g0, g4, g6, g8, gA, gB, gC, hlt, hlt', hx, entsD, entD, atts]
      refine givB [1000002] 1000002 (c3 q) (by simp [gC, rtr, entsD, entD, atts]) rfl (by simp) ?_
      rintro r hs' ⟨rfl, rfl⟩
      simp -implicitDefEqProofs [g0, g4, g6, g8, gA, gB, gC, hlt, hlt', hx, entsD, entD, atts, takeH, putH, rtr, h0]
      repeat refine And.intro (by first | omega | rfl) ?_
      exact again hlt ⟨p, u, X, q, by simp [g0, entsD, entD, atts], by simp [g4], by simp [g6], by simp, by simp [gA], by simp [hE2, gB], by simp [hE2, entsD, entD, atts]⟩
  · have hlt' : ¬ (k : Int) < l.length := by omega
    obtain rfl : k = l.length := by omega
    rw [treeK_all] at gB gC
    simp -implicitDefEqProofs [g0, g4, g6, g8, gA, gB, gC, hlt', entsD]
    exact ⟨[.d (.raw (va p)), .d (.raw (va q))], [1000000, 1000001, 1000002], by simp, by simp [gA, gB, gC, isH], by simp [resDs, resD], p, u, q, rfl, X, by simp [gA, gB, gC, tr, rtr, entsD]⟩
theorem lgtB_all {s : Sch} {l : List Ent} (h : lgtB s l = true) : (∀ e ∈ l, entB e = true) ∧ l.length ≤ 12 := by
  unfold lgtB at h
  simp only [Bool.and_eq_true, List.all_eq_true, decide_eq_true_eq] at h
  obtain ⟨h1, h2, h3, _⟩ := h
  rw [List.take_of_length_le h3] at h1
  exact ⟨h1, h3⟩
theorem lgtB_fit {s : Sch} {l : List Ent} (h : lgtB s l = true) : FitEs l := fun e he => by
  obtain ⟨h1, h2⟩ := entB_fit ((lgtB_all h).1 e he)
  exact ⟨by omega, h1⟩
theorem groupsU_len (E : List Ent) (u : Str) : (groupsU E u).length ≤ E.length := by
  rw [← grpP_all]; exact grpP_len E u E.length
theorem holds_fn (l : List Str) (s : Str) (hl : l.length < 1000000) : Ctr Tryz.prog 32 [.d (strs l), .d (.str s)] (.d (.bool (decide (s ∈ l)))) := by
  refine fn_of_vwp (fun _ => false) (by kernel_rfl) Tryz.func32 (by kernel_rfl) rfl rfl (Nat.le_of_ble_eq_true rfl) (by kernel_rfl) rfl rfl ?_
  obtain ⟨B, hB⟩ : ∃ B, decide (s ∈ l) = B := ⟨_, rfl⟩
  rw [hB]
  simp -implicitDefEqProofs [strs]
  refine loopN l.length (HsI l s) ⟨by simp [strs], by simp, by simp, by simp⟩ ?_
  rintro k τ hk ⟨g0, g1, g5, gA⟩
  by_cases hlt : k < l.length
  · have hlt' : (k : Int) < l.length := by omega
    have hm := List.getElem_mem hlt
    have hN : s ∉ l.take (k + 1) ↔ l[k] ≠ s := by rw [take_s hlt, List.mem_append]; simp [gA, eq_comm]
    generalize hx : l[k] = x at *
    by_cases hq : x = s
    · have : B = true := by rw [← hB]; simpa using hq ▸ hm
      subst this
      simp -implicitDefEqProofs [g0, g1, g5, hlt, hlt', strs, hx, hq]
    · simp -implicitDefEqProofs [g0, g1, g5, hlt, hlt', strs, hx, hq]
      repeat refine And.intro (by omega) ?_
      exact again hlt ⟨by simp [g0, strs], by simp [g1], by simp, hN.2 hq⟩
  · have hlt' : ¬ (k : Int) < l.length := by omega
    rw [List.take_of_length_le (by omega)] at gA
    have : B = false := by rw [← hB]; simpa using gA
    subst this
    simp -implicitDefEqProofs [g0, g1, g5, hlt', strs]
theorem memT_grp {E : List Ent} {n : Str} {l : List Str} (hk : ksE E n = some (some l)) : ∃ M, memT E n = (M, 0) ∧ Mem (ksE E) n M ∧ membersU E n = some M :=
  ⟨_, by simp [memT, membersU, hk], memU_ok (ksE E) (K := keysE E) (fun n hn => ksE_some hn) hk, by simp [membersU, hk]⟩
theorem memT_not {E : List Ent} {n : Str} (hk : ∀ l, ksE E n ≠ some (some l)) : memT E n = ([], 6) := by
  unfold memT membersU
  cases h : ksE E n with
  | none => rfl
  | some x => cases x with
    | none => rfl
    | some l => exact absurd h (hk l)
theorem mem_groups {E : List Ent} {g x : Str} {M : List Str} (hg : g ∈ keysE E) (hm : membersU E g = some M) (hx : x ∈ M) : g ∈ groupsU E x := by
  unfold groupsU
  exact List.mem_filter.2 ⟨hg, by simp [hm, hx]⟩
theorem getE_at {E : List Ent} (hE : TI E) {i : Nat} (h : i < E.length) : getE E E[i].1 = some E[i].2 := getE_mem hE.ord (List.getElem_mem h)
def C6I (p u : Nat) (E : List Ent) (i : Nat) (τ : St) : Prop := ∃ X, τ 3 = .d (.raw (va p)) ∧ τ 5 = .own true 28 (E.map entD) ∧ τ 6 = .d (.int .i64 i) ∧ τ 1000000 = .hb (va p) 125 (.agg [.raw (.map (some u))]) ∧ τ 1000001 = .hm (.map (some u)) 9 (mapE E) X
def C6J (p u : Nat) (E : List Ent) (i : Nat) (M : List Str) (f : Int) (j : Nat) (τ : St) : Prop := ∃ X, τ 3 = .d (.raw (va p)) ∧ τ 5 = .own true 28 (E.map entD) ∧ τ 6 = .d (.int .i64 i) ∧ τ 7 = .d (strs M) ∧ τ 8 = .d (.int .i64 f) ∧ τ 9 = .d (.int .i64 j) ∧ τ 1000000 = .hb (va p) 125 (.agg [.raw (.map (some u))]) ∧ τ 1000001 = .hm (.map (some u)) 9 (mapE E) X
def C6K (p u : Nat) (E : List Ent) (i : Nat) (M : List Str) (f : Int) (l : List Str) (j : Nat) (τ : St) : Prop := ∃ X, τ 3 = .d (.raw (va p)) ∧ τ 5 = .own true 28 (E.map entD) ∧ τ 6 = .d (.int .i64 i) ∧ τ 7 = .d (strs M) ∧ τ 8 = .d (.int .i64 f) ∧ τ 12 = .d (strs l) ∧ τ 13 = .d (.int .i64 j) ∧ τ 1000000 = .hb (va p) 125 (.agg [.raw (.map (some u))]) ∧ τ 1000001 = .hm (.map (some u)) 9 (mapE E) X
def C6L (p u : Nat) (E : List Ent) (i : Nat) (M : List Str) (f : Int) (l : List Str) (j : Nat) (S : List Str) (g : Int) (k : Nat) (τ : St) : Prop := ∃ X, τ 3 = .d (.raw (va p)) ∧ τ 5 = .own true 28 (E.map entD) ∧ τ 6 = .d (.int .i64 i) ∧ τ 7 = .d (strs M) ∧ τ 8 = .d (.int .i64 f) ∧ τ 12 = .d (strs l) ∧ τ 13 = .d (.int .i64 j) ∧ τ 14 = .d (strs S) ∧ τ 15 = .d (.int .i64 g) ∧ τ 16 = .d (.int .i64 k) ∧ τ 1000000 = .hb (va p) 125 (.agg [.raw (.map (some u))]) ∧ τ 1000001 = .hm (.map (some u)) 9 (mapE E) X
theorem law6_fn (l : List Ent) : Ctr Tryz.prog 6 [.d (entsD l)] (.d (.bool true)) := by
  refine fn_of_vwpF (fun i => i == 5000026 || i == 5000032 || i == 5000046 || i == 5000069 || i == 5000084 || i == 5000114 || i == 5000140 || i == 20000017) (by kernel_rfl) Tryz.func6 (by kernel_rfl) rfl rfl (Nat.le_of_ble_eq_true rfl) (by kernel_rfl) rfl rfl ?_
  have c1 := light_fn ([], []) l
  have cA := awake_fn
  have hs0 : schD ([], []) = .agg [.sl [], .sl []] := rfl
  rw [hs0] at c1
  simp only [entsD] at c1
  cases hL : lgtB ([], []) l with
  | false =>
    rw [hL] at c1
    simp -implicitDefEqProofs [entsD]
    refine callK c1 ?_
    simp -implicitDefEqProofs
    refine callK cA ?_
    simp -implicitDefEqProofs
  | true =>
  rw [hL] at c1
  have hfit := lgtB_fit hL
  have hlen := (lgtB_all hL).2
  obtain ⟨hT, hF, hR⟩ := treeU_ok hfit
  have hk := key_len hT
  have hfew := hT.few
  have c2 := trees_fn l hfit (by omega)
  have c3 := fun p u X => tsubtree_fn p u (treeU l) X hT hF [] (by simp)
  simp only [sub_all] at c3
  clear hfit
  generalize treeU l = E at *
  simp only [entsD, strs, List.map_cons, List.map_nil] at c2 c3
  simp -implicitDefEqProofs [entsD]
  refine callK c1 ?_
  simp -implicitDefEqProofs
  refine givB [] 1000000 c2 (by simp) rfl (by simp) ?_
  rintro r hs' ⟨p, u, q, X, rfl, rfl⟩
  simp -implicitDefEqProofs [takeH, putH, tr, rtr]
  refine givB [1000000, 1000001] 1000000 (c3 p u X) (by simp [tr]) rfl (by simp) ?_
  rintro r hs' ⟨rfl, X, rfl⟩
  simp -implicitDefEqProofs [takeH, putH, tr, rtr]
  refine loopN E.length (C6I p u E) ⟨X, by simp, by simp, by simp, by simp, by simp⟩ ?_
  clear c1 c2 c3 X
  rintro i τ hi ⟨X, g3, g5, g6, gA, gB⟩
  by_cases hlt : i < E.length
  · have hlt' : (i : Int) < E.length := by omega
    have hget := getE_at hT hlt
    have hin := List.getElem_mem hlt
    have c4 := members_fn p u E X hT hF hR hk E[i].1
    have c5 := isGroupR_fn E[i].1 E[i].2 (hR _ hin)
    have c6 := listedR_fn E[i].1 E[i].2 (hR _ hin)
    have hll := listedR_len (hR _ hin)
    have hkey : E[i].1 ∈ keysE E := List.mem_map.2 ⟨_, hin, rfl⟩
    have hml := memT_len hT E[i].1
    have hks : ksE E E[i].1 = if isGrp E[i].2 = true then some (some (listedR E[i].2)) else some none := by rw [ksE, hget]
    generalize hx : E[i] = e at *
    obtain ⟨nm, A⟩ := e
    simp only at hget c4 c5 c6 hll hkey hml hks
    cases hb : isGrp A with
    | false =>
      rw [hb] at c5 hks
      simp only [Bool.false_eq_true, if_false] at hks
      have hm := memT_not (E := E) (n := nm) (fun l => by rw [hks]; simp)
      rw [hm] at c4
      simp only [entD, atts, strs, List.map_nil] at c4 c5 c6
      simp -implicitDefEqProofs [g3, g5, g6, gA, gB, hlt, hlt', hx, entD, atts]
      refine givB [1000000, 1000001] 1000000 c4 (by simp [gA, gB, tr]) rfl (by simp) ?_
      rintro r hs' ⟨rfl, rfl⟩
      simp -implicitDefEqProofs [g3, g5, g6, gA, gB, hlt, hlt', hx, entD, atts, takeH, putH, tr]
      refine callK c5 ?_
      simp -implicitDefEqProofs [g3, g5, g6, gA, gB, hlt, hlt', hx, entD, atts]
      refine loopN 0 (C6J p u E i [] 6) ⟨X, by simp [g3], by simp [g5], by simp [g6], by simp [strs], by simp, by simp, by simp, by simp⟩ ?_
      clear c4 c5 g3 g5 g6 gA gB
      rintro j τ hj ⟨X, g3, g5, g6, g7, g8, g9, gA, gB⟩
      obtain rfl : j = 0 := by omega
      simp -implicitDefEqProofs [g3, g5, g6, g7, g8, g9, gA, gB, hlt, hlt', hx, entD, atts, strs]
      refine callK c6 ?_
      simp -implicitDefEqProofs [g3, g5, g6, g7, g8, g9, gA, gB]
      refine loopN 0 (C6K p u E i [] 6 (listedR A)) ⟨X, by simp [g3], by simp [g5], by simp [g6], by simp [g7, strs], by simp [g8], by simp [strs], by simp, by simp [gA], by simp [gB]⟩ ?_
      clear c6 g3 g5 g6 g7 g8 g9 gA gB
      rintro j τ hj ⟨X, g3, g5, g6, g7, g8, g12, g13, gA, gB⟩
      obtain rfl : j = 0 := by omega
      simp -implicitDefEqProofs [g3, g5, g6, g7, g8, g12, g13, gA, gB]
      repeat refine And.intro (by omega) ?_
      exact again hlt ⟨X, by simp [g3], by simp [g5], by simp, by simp [gA], by simp [gB]⟩
    | true =>
      rw [hb] at c5 hks
      simp only [if_true] at hks
      obtain ⟨M, hm, hM, hmu⟩ := memT_grp hks
      rw [hm] at c4 hml
      simp only at hml
      simp only [entD, atts, strs] at c4 c5 c6
      generalize hl0 : listedR A = ls at *
      simp -implicitDefEqProofs [g3, g5, g6, gA, gB, hlt, hlt', hx, entD, atts]
      refine givB [1000000, 1000001] 1000000 c4 (by simp [gA, gB, tr]) rfl (by simp) ?_
      rintro r hs' ⟨rfl, rfl⟩
      simp -implicitDefEqProofs [g3, g5, g6, gA, gB, hlt, hlt', hx, entD, atts, takeH, putH, tr]
      refine callK c5 ?_
      simp -implicitDefEqProofs [g3, g5, g6, gA, gB, hlt, hlt', hx, entD, atts]
      refine loopN M.length (C6J p u E i M 0) ⟨X, by simp [g3], by simp [g5], by simp [g6], by simp [strs], by simp, by simp, by simp, by simp⟩ ?_
      clear c4 c5 g3 g5 g6 gA gB
      rintro j τ hj ⟨X, g3, g5, g6, g7, g8, g9, gA, gB⟩
      by_cases hjt : j < M.length
      · have hjt' : (j : Int) < M.length := by omega
        have hxm : M[j] ∈ M := List.getElem_mem hjt
        have hkx := ((hM.mem _).1 hxm).1
        have hgr := mem_groups hkey hmu hxm
        have c7 := fun X => tget_fn p u E X M[j] hF
        have c8 := fun X => groups_fn p u E X hT hF hR hk M[j]
        have c9 := holds_fn (groupsU E M[j]) nm (by have := groupsU_len E M[j]; omega)
        rw [decide_eq_true hgr] at c9
        rcases ks_cases hR M[j] with ⟨_, q⟩ | ⟨b, hgb, hfb, hbb, q⟩ | ⟨b, _, _, _, q⟩
        · rw [q] at hkx; cases hkx
        rotate_left
        · rw [q] at hkx; cases hkx
        have hnb := hT.normal _ (getE_in hgb)
        simp only at hnb
        simp only [getT, hgb, hnb] at c7
        have c10 := isGroupR_fn M[j] b hfb
        rw [hbb] at c10
        generalize hy : M[j] = x at *
        generalize groupsU E x = G at *
        simp only [entD, atts, strs] at c7 c8 c9 c10
        simp -implicitDefEqProofs [g3, g5, g6, g7, g8, g9, gA, gB, hjt, hjt', hy, strs]
        refine givB [1000000, 1000001] 1000000 (c7 X) (by simp [gA, gB, tr]) rfl (by simp) ?_
        rintro r hs' ⟨rfl, rfl⟩
        simp -implicitDefEqProofs [g3, g5, g6, g7, g8, g9, gA, gB, takeH, putH, tr]
        refine floK [0, 1, 2, 3, 4, 5, 6, 7, 8, 9, 10, 11, 13, 14, 15, 16, 17, 12, 18, 19, 20] [72, 73, 74, 75, 76, 77, 78, 79, 80, 81, 82, 83, 84, 85, 86, 87, 88, 89, 90, 91, 92] (by kernel_rfl) (by kernel_rfl) (by kernel_rfl) ?_
        simp -implicitDefEqProofs [g3, g5, g6, g7, g8, g9, gA, gB, hjt, hjt', hy, strs, hlt, hlt', hx, entD, atts]
        refine callP c10 ?_
        simp -implicitDefEqProofs [g3, g5, g6, g7, g8, g9, gA, gB, hjt, hjt', hy, strs, hlt, hlt', hx, entD, atts]
        refine givF [1000000, 1000001] 1000000 (c8 X) (by simp [gA, gB, tr]) rfl (by simp) rfl (by omega) ?_
        rintro r hs' ⟨rfl, X2, rfl⟩
        refine ⟨rfl, ?_⟩
        simp -implicitDefEqProofs [g3, g5, g6, g7, g8, g9, gA, gB, hjt, hjt', hy, strs, hlt, hlt', hx, entD, atts, takeH, putH, tr]
        refine callP c9 ?_
        simp -implicitDefEqProofs [g3, g5, g6, g7, g8, g9, gA, gB, hjt, hjt', hy, strs, hlt, hlt', hx, entD, atts]
        repeat refine And.intro (by omega) ?_
        exact again hjt ⟨X2, by simp [g3], by simp [g5], by simp [g6], by simp [g7, strs], by simp [g8], by simp, by simp, by simp⟩
      · have hjt' : ¬ (j : Int) < M.length := by omega
        simp -implicitDefEqProofs [g3, g5, g6, g7, g8, g9, gA, gB, hjt, hjt', hlt, hlt', hx, entD, atts, strs]
        refine callK c6 ?_
        simp -implicitDefEqProofs [g3, g5, g6, g7, g8, g9, gA, gB]
        refine loopN ls.length (C6K p u E i M 0 ls) ⟨X, by simp [g3], by simp [g5], by simp [g6], by simp [g7, strs], by simp [g8], by simp [strs], by simp, by simp [gA], by simp [gB]⟩ ?_
        clear c6 g3 g5 g6 g7 g8 g9 gA gB hjt hjt' hj j
        rintro j τ hj ⟨X, g3, g5, g6, g7, g8, g12, g13, gA, gB⟩
        by_cases hjt : j < ls.length
        · have hjt' : (j : Int) < ls.length := by omega
          have hym : ls[j] ∈ ls := List.getElem_mem hjt
          have hvia : (ksE E ls[j]).isSome = true → Via (ksE E) nm ls[j] := fun h => .step .here hks hym h
          have c7 := fun X => members_fn p u E X hT hF hR hk ls[j]
          have c8 := fun X => tget_fn p u E X ls[j] hF
          have hml2 := memT_len hT ls[j]
          have c9 := fun s => holds_fn M s (by omega)
          simp only [getT] at c8
          rcases ks_cases hR ls[j] with ⟨hgb, q⟩ | ⟨b, hgb, hfb, hbb, q⟩ | ⟨b, hgb, hfb, hbb, q⟩
          · have hm2 := memT_not (E := E) (n := ls[j]) (fun l => by rw [q]; simp)
            rw [hm2] at c7
            simp only [hgb] at c8
            generalize hy : ls[j] = y at *
            simp only [entD, atts, strs, List.map_nil] at c7 c8
            simp -implicitDefEqProofs [g3, g5, g6, g7, g8, g12, g13, gA, gB, hjt, hjt', hy, strs]
            refine givB [1000000, 1000001] 1000000 (c7 X) (by simp [gA, gB, tr]) rfl (by simp) ?_
            rintro r hs' ⟨rfl, rfl⟩
            simp -implicitDefEqProofs [g3, g5, g6, g7, g8, g12, g13, gA, gB, takeH, putH, tr]
            refine loopN 0 (C6L p u E i M 0 ls j [] 6) ⟨X, by simp [g3], by simp [g5], by simp [g6], by simp [g7], by simp [g8], by simp [g12], by simp [g13], by simp [strs], by simp, by simp, by simp, by simp⟩ ?_
            clear c7 g3 g5 g6 g7 g8 g12 g13 gA gB
            rintro k τ hk0 ⟨X, g3, g5, g6, g7, g8, g12, g13, g14, g15, g16, gA, gB⟩
            obtain rfl : k = 0 := by omega
            simp -implicitDefEqProofs [g3, g5, g6, g7, g8, g12, g13, g14, g15, g16, gA, gB, hjt, hjt', hy, strs]
            refine givB [1000000, 1000001] 1000000 (c8 X) (by simp [gA, gB, tr]) rfl (by simp) ?_
            rintro r hs' ⟨rfl, rfl⟩
            simp -implicitDefEqProofs [g3, g5, g6, g7, g8, g12, g13, gA, gB, takeH, putH, tr]
            repeat refine And.intro (by omega) ?_
            exact again hjt ⟨X, by simp [g3], by simp [g5], by simp [g6], by simp [g7], by simp [g8], by simp [g12], by simp, by simp, by simp⟩
          · have hm2 := memT_not (E := E) (n := ls[j]) (fun l => by rw [q]; simp)
            rw [hm2] at c7
            have hnb := hT.normal _ (getE_in hgb)
            simp only at hnb
            simp only [hgb, hnb] at c8
            have c10 := isGroupR_fn ls[j] b hfb
            rw [hbb] at c10
            have c9 := c9 ls[j]
            rw [decide_eq_true ((hM.mem _).2 ⟨q, hvia (by rw [q]; rfl)⟩)] at c9
            generalize hy : ls[j] = y at *
            simp only [entD, atts, strs, List.map_nil] at c7 c8 c9 c10
            simp -implicitDefEqProofs [g3, g5, g6, g7, g8, g12, g13, gA, gB, hjt, hjt', hy, strs]
            refine givB [1000000, 1000001] 1000000 (c7 X) (by simp [gA, gB, tr]) rfl (by simp) ?_
            rintro r hs' ⟨rfl, rfl⟩
            simp -implicitDefEqProofs [g3, g5, g6, g7, g8, g12, g13, gA, gB, takeH, putH, tr]
            refine loopN 0 (C6L p u E i M 0 ls j [] 6) ⟨X, by simp [g3], by simp [g5], by simp [g6], by simp [g7], by simp [g8], by simp [g12], by simp [g13], by simp [strs], by simp, by simp, by simp, by simp⟩ ?_
            clear c7 g3 g5 g6 g7 g8 g12 g13 gA gB
            rintro k τ hk0 ⟨X, g3, g5, g6, g7, g8, g12, g13, g14, g15, g16, gA, gB⟩
            obtain rfl : k = 0 := by omega
            simp -implicitDefEqProofs [g3, g5, g6, g7, g8, g12, g13, g14, g15, g16, gA, gB, hjt, hjt', hy, strs]
            refine givB [1000000, 1000001] 1000000 (c8 X) (by simp [gA, gB, tr]) rfl (by simp) ?_
            rintro r hs' ⟨rfl, rfl⟩
            simp -implicitDefEqProofs [g3, g5, g6, g7, g8, g12, g13, gA, gB, takeH, putH, tr]
            refine callK c10 ?_
            simp -implicitDefEqProofs [g3, g5, g6, g7, g8, g12, g13, gA, gB, hjt, hjt', hy, strs]
            refine callK c9 ?_
            simp -implicitDefEqProofs [g3, g5, g6, g7, g8, g12, g13, gA, gB]
            repeat refine And.intro (by omega) ?_
            exact again hjt ⟨X, by simp [g3], by simp [g5], by simp [g6], by simp [g7, strs], by simp [g8], by simp [g12, strs], by simp, by simp, by simp⟩
          · obtain ⟨S, hm2, hS, hSu⟩ := memT_grp q
            rw [hm2] at c7 hml2
            simp only at hml2
            have hnb := hT.normal _ (getE_in hgb)
            simp only at hnb
            simp only [hgb, hnb] at c8
            have c10 := isGroupR_fn ls[j] b hfb
            rw [hbb] at c10
            have hsub : ∀ z ∈ S, z ∈ M := fun z hz => by
              obtain ⟨z1, z2⟩ := (hS.mem z).1 hz
              exact (hM.mem z).2 ⟨z1, (hvia (by rw [q]; rfl)).trans _ z2⟩
            generalize hy : ls[j] = y at *
            simp only [entD, atts, strs] at c7 c8 c9 c10
            simp -implicitDefEqProofs [g3, g5, g6, g7, g8, g12, g13, gA, gB, hjt, hjt', hy, strs]
            refine givB [1000000, 1000001] 1000000 (c7 X) (by simp [gA, gB, tr]) rfl (by simp) ?_
            rintro r hs' ⟨rfl, rfl⟩
            simp -implicitDefEqProofs [g3, g5, g6, g7, g8, g12, g13, gA, gB, takeH, putH, tr]
            refine loopN S.length (C6L p u E i M 0 ls j S 0) ⟨X, by simp [g3], by simp [g5], by simp [g6], by simp [g7], by simp [g8], by simp [g12], by simp [g13], by simp [strs], by simp, by simp, by simp, by simp⟩ ?_
            clear c7 g3 g5 g6 g7 g8 g12 g13 gA gB
            rintro k τ hk0 ⟨X, g3, g5, g6, g7, g8, g12, g13, g14, g15, g16, gA, gB⟩
            by_cases hkt : k < S.length
            · have hkt' : (k : Int) < S.length := by omega
              have c11 := c9 S[k]
              rw [decide_eq_true (hsub _ (List.getElem_mem hkt))] at c11
              generalize hz : S[k] = z at *
              simp -implicitDefEqProofs [g3, g5, g6, g7, g8, g12, g13, g14, g15, g16, gA, gB, hkt, hkt', hz, strs]
              refine callK c11 ?_
              simp -implicitDefEqProofs [g3, g5, g6, g7, g8, g12, g13, g14, g15, g16, gA, gB]
              repeat refine And.intro (by omega) ?_
              exact again hkt ⟨X, by simp [g3], by simp [g5], by simp [g6], by simp [g7, strs], by simp [g8], by simp [g12, strs], by simp [g13], by simp [g14, strs], by simp [g15], by simp, by simp [gA], by simp [gB]⟩
            · have hkt' : ¬ (k : Int) < S.length := by omega
              simp -implicitDefEqProofs [g3, g5, g6, g7, g8, g12, g13, g14, g15, g16, gA, gB, hjt, hjt', hkt, hkt', hy, strs]
              refine givB [1000000, 1000001] 1000000 (c8 X) (by simp [gA, gB, tr]) rfl (by simp) ?_
              rintro r hs' ⟨rfl, rfl⟩
              simp -implicitDefEqProofs [g3, g5, g6, g7, g8, g12, g13, gA, gB, takeH, putH, tr]
              refine callK c10 ?_
              simp -implicitDefEqProofs [g3, g5, g6, g7, g8, g12, g13, gA, gB]
              repeat refine And.intro (by omega) ?_
              exact again hjt ⟨X, by simp [g3], by simp [g5], by simp [g6], by simp [g7, strs], by simp [g8], by simp [g12, strs], by simp, by simp, by simp⟩
        · have hjt' : ¬ (j : Int) < ls.length := by omega
          simp -implicitDefEqProofs [g3, g5, g6, g7, g8, g12, g13, gA, gB, hjt, hjt', strs]
          repeat refine And.intro (by omega) ?_
          exact again hlt ⟨X, by simp [g3], by simp [g5], by simp, by simp [gA], by simp [gB]⟩
  · have hlt' : ¬ (i : Int) < E.length := by omega
    simp -implicitDefEqProofs [g3, g5, g6, gA, gB, hlt, hlt']
    refine callK cA ?_
    simp -implicitDefEqProofs
end Go.Proofs.Tz
namespace Go.Proofs.Tz
open Go.Vw
theorem fits_str {d : D} (h : Sh.Fits .str d) : ∃ s : Str, d = .str s := by
  simp only [Sh.Fits] at h
  obtain ⟨s, rfl, _⟩ := h
  exact ⟨s, rfl⟩
theorem fits_list {α : Type} {s : Sh} (g : α → D) (hs : ∀ d, Sh.Fits s d → ∃ a, d = g a) {d : D} (h : Sh.Fits (.sl s) d) : ∃ l : List α, d = .sl (l.map g) := by
  simp only [Sh.Fits] at h
  obtain ⟨ds, rfl, _, h⟩ := h
  have : ∀ ds : List D, (∀ x ∈ ds, Sh.Fits s x) → ∃ l : List α, ds = l.map g := by
    intro ds
    induction ds with
    | nil => intro _; exact ⟨[], rfl⟩
    | cons x ds ih =>
      intro h
      obtain ⟨a, rfl⟩ := hs x (h x (by simp))
      obtain ⟨l, rfl⟩ := ih fun y hy => h y (by simp [hy])
      exact ⟨a :: l, rfl⟩
  obtain ⟨l, rfl⟩ := this ds h
  exact ⟨l, rfl⟩
theorem fits_strs {d : D} (h : Sh.Fits (.sl .str) d) : ∃ l : List Str, d = strs l := fits_list _ (fun _ h => fits_str h) h
theorem fits_att {d : D} (h : Sh.Fits (.agg [.str, .sl .str]) d) : ∃ a : Att, d = att a := by
  simp only [Sh.Fits, Sh.FitsL] at h
  obtain ⟨ds, rfl, x, xs, rfl, ⟨s, rfl, _⟩, y, ys, rfl, hy, rfl⟩ := h
  obtain ⟨l, rfl⟩ := fits_strs (d := y) (by simp only [Sh.Fits]; exact hy)
  exact ⟨(s, l), rfl⟩
theorem fits_atts {d : D} (h : Sh.Fits (.sl (.agg [.str, .sl .str])) d) : ∃ l : List Att, d = atts l := fits_list _ (fun _ h => fits_att h) h
end Go.Proofs.Tz
namespace Go.Proofs.Tz
open Go.Vw Go.RowKit Go.Proofs
theorem fits_ent {d : D} (h : Sh.Fits (.agg [.str, .sl (.agg [.str, .sl (.str)])]) d) : ∃ x : Ent, d = entD x := by
  simp only [Sh.Fits, Sh.FitsL] at h
  obtain ⟨ds, rfl, x, xs, rfl, ⟨s, rfl, _⟩, y, ys, rfl, hy, rfl⟩ := h
  obtain ⟨l, rfl⟩ := fits_atts (by simpa only [Sh.Fits, Sh.FitsL] using hy)
  exact ⟨(s, l), rfl⟩
theorem fits_ents {d : D} (h : Sh.Fits (.sl (.agg [.str, .sl (.agg [.str, .sl (.str)])])) d) : ∃ l : List Ent, d = entsD l := fits_list _ (fun _ h => fits_ent h) h
theorem RefintClosure_ok (l : List Ent) (hb : D.lims 140737488351232 [entsD l]) : Ctr Tryz.prog 6 [.d (entsD l)] (.d (.bool true)) := law6_fn l
end Go.Proofs.Tz