/-
  What the functions that the statements about layer 14 (access) reach compute, part 3 of 3: contracts and plain laws, for lists and strings of bounded size (each theorem states its bound).
-/
import Derived.Test.YtlekjboiacnjhaaGreatDoorTl
import Derived.Test.YtlekjboiacnjhaaGreatDoorTk
import Derived.Test.YtlekjboiacnjhaaGreatDoorWm

set_option linter.unusedSimpArgs false
set_option linter.unusedVariables false

/- Access lists: decisions of the reference. -/
set_option maxRecDepth 100000
set_option maxHeartbeats 4000000
set_option linter.unusedVariables false
set_option linter.unusedSimpArgs false
namespace Go.Proofs.Tz
open Go.Vw Go.RowKit Go.Proofs

theorem decideR_fn (l : List ARule) (u : Subj) (entry attr : Str) (right : Int) (hl : FitARs l) (hu : FitU u) (he : List.length entry < 900000) (ha : List.length attr < 1000000) :
    Ctr Tryz.prog 49 [.d (arules l), .d (subjD u), .d (.str entry), .d (.str attr), .d (.int .i64 right)] (.tup [.d (.bool (decP l u entry attr right).1), .d (.int .i64 (decP l u entry attr right).2)]) := by
  refine fn_of_vwpN (rv := .tmp 10) (rs := [.tmp 11]) (r := .d (.bool (decP l u entry attr right).1)) (ys := [.d (.int .i64 (decP l u entry attr right).2)]) (fun i => false) (by kernel_rfl) Tryz.func49 (by kernel_rfl) rfl rfl (by simp) (Nat.le_of_ble_eq_true rfl) (by kernel_rfl) rfl rfl ?_
  rw [decP_out]
  have hl1 := hl.1
  have hap := fun r (hr : r ∈ l) => appliesR_fn r u entry (hl.2 r hr) hu he
  have hco := fun r (hr : r ∈ l) => covers_fn r attr (hl.2 r hr) ha
  have hM : ∀ r : ARule, matchP u entry attr right r = (coversP r attr && decide (right ∈ r.2.2.2.2) && appliesP r u entry) := fun r => rfl
  generalize matchP u entry attr right = m at *
  generalize hA : (fun r => appliesP r u entry) = A at *
  have hA' : ∀ r, appliesP r u entry = A r := fun r => by rw [← hA]
  simp only [hA'] at hap hM
  clear hA hA'
  obtain ⟨R, hR⟩ : ∃ R, decGo m 0 none l = R := ⟨_, rfl⟩
  rw [hR]
  obtain ⟨us, gs⟩ := u
  simp only [subjD, strs] at hap
  simp -implicitDefEqProofs [subjD, strs, arules]
  refine loopN l.length (fun k τ => τ 0 = .d (arules l) ∧ τ 2 = .d (.str entry) ∧ τ 3 = .d (.str attr) ∧ τ 4 = .d (.int .i64 right) ∧ τ 6 = .box (.agg [.str us, .sl (gs.map .str)]) ∧ τ 13 = .d (.int .i64 k) ∧
    ∃ b, Best1 l 12 τ b ∧ decGo m k b (l.drop k) = R) ⟨by simp [arules], by simp, by simp, by simp, by simp, by simp, none, by simp [Best1], by simpa using hR⟩ ?_
  rintro k τ hk ⟨h0, h2, h3, h4, h6, h13, b, hb, hI⟩
  by_cases hlt : k < l.length
  · have hlt' : (k : Int) < l.length := by omega
    rw [decGo_drop hlt] at hI
    have hmem := List.getElem_mem hlt
    have c1 := hap _ hmem
    have c3 := hco _ hmem
    have hfit := hl.2 _ hmem
    have hr : ∃ r, l[k] = r := ⟨_, rfl⟩
    obtain ⟨r, hr⟩ := hr
    rw [hr] at c1 c3 hfit hI
    have c2 := hasRight_fn r.2.2.2.2 right hfit.rights
    have c4 := ndepthR_fn r.2.2.1 hfit.targ
    have hkr : ∃ h : k < l.length, l[k] = r := ⟨hlt, hr⟩
    have hMr := hM r
    obtain ⟨al, su, ta, at_, ri⟩ := r
    simp only [aruleD, strs, ints] at c1 c2 c3 c4 hMr
    have skip : m (al, su, ta, at_, ri) = false → pickB m k b (al, su, ta, at_, ri) = b := fun h => by unfold pickB; rw [if_neg (by simp [h])]
    have bkeep : ∀ τ' : St, τ' 12 = τ 12 → Best1 l 12 τ' b := fun τ' e => by
      cases b with
      | none => exact e.trans hb
      | some x => exact ⟨e.trans hb.1, hb.2⟩
    by_cases ha1 : A (al, su, ta, at_, ri) = true
    case neg =>
      have ha1' : A (al, su, ta, at_, ri) = false := by simpa using ha1
      rw [skip (by rw [hMr, ha1', Bool.and_false])] at hI
      rw [ha1'] at c1
      simp -implicitDefEqProofs [h0, h2, h3, h4, h6, h13, arules, hlt, hlt', hr, aruleD, strs, ints]
      refine callP c1 ?_
      simp -implicitDefEqProofs [h0, h2, h3, h4, h6, h13]
      repeat refine And.intro (by omega) ?_
      exact again hlt ⟨by simp [h0, arules, aruleD, strs, ints], by simp [h2], by simp [h3], by simp [h4], by simp [h6], by simp, b, bkeep _ (by
        cases b with
        | none => rw [show τ 12 = _ from hb]; simp [show τ 12 = _ from hb]
        | some x => simp [show τ 12 = _ from hb.1]), hI⟩
    rw [ha1] at c1 hMr
    by_cases hh : right ∈ ri
    case neg =>
      rw [skip (by rw [hMr]; simp [hh])] at hI
      simp -implicitDefEqProofs [h0, h2, h3, h4, h6, h13, arules, hlt, hlt', hr, aruleD, strs, ints]
      refine callP c1 ?_
      simp -implicitDefEqProofs [h0, h2, h3, h4, h6, h13, arules, hlt, hlt', hr, aruleD, strs, ints]
      refine callP c2 ?_
      simp -implicitDefEqProofs [h0, h2, h3, h4, h6, h13, hh]
      repeat refine And.intro (by omega) ?_
      exact again hlt ⟨by simp [h0, arules, aruleD, strs, ints], by simp [h2], by simp [h3], by simp [h4], by simp [h6], by simp, b, bkeep _ (by
        cases b with
        | none => rw [show τ 12 = _ from hb]; simp [show τ 12 = _ from hb]
        | some x => simp [show τ 12 = _ from hb.1]), hI⟩
    by_cases hc : coversP (al, su, ta, at_, ri) attr = true
    case neg =>
      have hc' : coversP (al, su, ta, at_, ri) attr = false := by simpa using hc
      rw [skip (by rw [hMr, hc']; rfl)] at hI
      rw [hc'] at c3
      simp -implicitDefEqProofs [h0, h2, h3, h4, h6, h13, arules, hlt, hlt', hr, aruleD, strs, ints]
      refine callP c1 ?_
      simp -implicitDefEqProofs [h0, h2, h3, h4, h6, h13, arules, hlt, hlt', hr, aruleD, strs, ints]
      refine callP c2 ?_
      simp -implicitDefEqProofs [h0, h2, h3, h4, h6, h13, arules, hlt, hlt', hr, aruleD, strs, ints, hh]
      refine callP c3 ?_
      simp -implicitDefEqProofs [h0, h2, h3, h4, h6, h13]
      repeat refine And.intro (by omega) ?_
      exact again hlt ⟨by simp [h0, arules, aruleD, strs, ints], by simp [h2], by simp [h3], by simp [h4], by simp [h6], by simp, b, bkeep _ (by
        cases b with
        | none => rw [show τ 12 = _ from hb]; simp [show τ 12 = _ from hb]
        | some x => simp [show τ 12 = _ from hb.1]), hI⟩
    have hm : m (al, su, ta, at_, ri) = true := by rw [hMr, hc]; simp [hh]
    rw [hc] at c3
    cases b with
    | none =>
      have h12 : τ 12 = _ := hb
      have hp : pickB m k none (al, su, ta, at_, ri) = some (k, al, su, ta, at_, ri) := by unfold pickB; rw [if_pos hm]
      rw [hp] at hI
      simp -implicitDefEqProofs [h0, h2, h3, h4, h6, h13, h12, arules, hlt, hlt', hr, aruleD, strs, ints]
      refine callP c1 ?_
      simp -implicitDefEqProofs [h0, h2, h3, h4, h6, h13, h12, arules, hlt, hlt', hr, aruleD, strs, ints]
      refine callP c2 ?_
      simp -implicitDefEqProofs [h0, h2, h3, h4, h6, h13, h12, arules, hlt, hlt', hr, aruleD, strs, ints, hh]
      refine callP c3 ?_
      simp -implicitDefEqProofs [h0, h2, h3, h4, h6, h13, h12, arules, hlt, hlt', hr, aruleD, strs, ints]
      repeat refine And.intro (by omega) ?_
      exact again hlt ⟨by simp [h0, arules, aruleD, strs, ints], by simp [h2], by simp [h3], by simp [h4], by simp [h6], by simp, some (k, al, su, ta, at_, ri), ⟨by simp, hkr⟩, hI⟩
    | some x =>
      obtain ⟨i, b⟩ := x
      obtain ⟨h12, hil, hbi⟩ := hb
      have hil' : (i : Int) < l.length := by omega
      have hbe := hbi
      have hbfit := hl.2 _ (List.getElem_mem hil)
      rw [hbi] at hbfit
      have c5 := ndepthR_fn b.2.2.1 hbfit.targ
      obtain ⟨bl, bs, bt, ba, br⟩ := b
      simp only at c5
      have hbet : betterP (al, su, ta, at_, ri) (bl, bs, bt, ba, br) = (decide (depthU bt < depthU ta) || decide (depthU ta = depthU bt) && bl && !al) := rfl
      have hi0 : (0 : Int) ≤ (i : Int) := by omega
      have hi1 : ¬ (i : Int) < 0 := by omega
      by_cases hd : depthU ta < depthU bt
      · have hd' : (depthU ta : Int) < depthU bt := by omega
        have hp : pickB m k (some (i, bl, bs, bt, ba, br)) (al, su, ta, at_, ri) = some (i, bl, bs, bt, ba, br) := by
          unfold pickB; rw [if_pos hm]
          have z1 : ¬ depthU bt < depthU ta := by omega
          have z2 : ¬ depthU ta = depthU bt := by omega
          simp [hbet, z1, z2]
        rw [hp] at hI
        simp -implicitDefEqProofs [h0, h2, h3, h4, h6, h13, h12, arules, hlt, hlt', hr, aruleD, strs, ints]
        refine callP c1 ?_
        simp -implicitDefEqProofs [h0, h2, h3, h4, h6, h13, h12, arules, hlt, hlt', hr, aruleD, strs, ints]
        refine callP c2 ?_
        simp -implicitDefEqProofs [h0, h2, h3, h4, h6, h13, h12, arules, hlt, hlt', hr, aruleD, strs, ints, hh]
        refine callP c3 ?_
        simp -implicitDefEqProofs [h0, h2, h3, h4, h6, h13, h12, arules, hlt, hlt', hr, hil, hil', hbi, aruleD, strs, ints]
        refine callP c4 ?_
        simp -implicitDefEqProofs [h0, h2, h3, h4, h6, h13, h12, arules, hlt, hlt', hr, hil, hil', hbi, aruleD, strs, ints]
        refine callP c5 ?_
        simp -implicitDefEqProofs [h0, h2, h3, h4, h6, h13, h12, hd']
        repeat refine And.intro (by omega) ?_
        exact again hlt ⟨by simp [h0, arules, aruleD, strs, ints], by simp [h2], by simp [h3], by simp [h4], by simp [h6], by simp, some (i, bl, bs, bt, ba, br), ⟨by simp [h12], hil, hbe⟩, hI⟩
      · have hd' : ¬ (depthU ta : Int) < depthU bt := by omega
        by_cases hg : depthU bt < depthU ta
        · have hg' : (depthU bt : Int) < depthU ta := by omega
          have hp : pickB m k (some (i, bl, bs, bt, ba, br)) (al, su, ta, at_, ri) = some (k, al, su, ta, at_, ri) := by unfold pickB; rw [if_pos hm]; simp [hbet, hg]
          rw [hp] at hI
          simp -implicitDefEqProofs [h0, h2, h3, h4, h6, h13, h12, arules, hlt, hlt', hr, aruleD, strs, ints]
          refine callP c1 ?_
          simp -implicitDefEqProofs [h0, h2, h3, h4, h6, h13, h12, arules, hlt, hlt', hr, aruleD, strs, ints]
          refine callP c2 ?_
          simp -implicitDefEqProofs [h0, h2, h3, h4, h6, h13, h12, arules, hlt, hlt', hr, aruleD, strs, ints, hh]
          refine callP c3 ?_
          simp -implicitDefEqProofs [h0, h2, h3, h4, h6, h13, h12, arules, hlt, hlt', hr, hil, hil', hbi, aruleD, strs, ints]
          refine callP c4 ?_
          simp -implicitDefEqProofs [h0, h2, h3, h4, h6, h13, h12, arules, hlt, hlt', hr, hil, hil', hbi, aruleD, strs, ints]
          refine callP c5 ?_
          simp -implicitDefEqProofs [h0, h2, h3, h4, h6, h13, h12, arules, hlt, hlt', hr, hil, hil', hbi, aruleD, strs, ints, hd', hi1]
          refine callP c4 ?_
          simp -implicitDefEqProofs [h0, h2, h3, h4, h6, h13, h12, arules, hlt, hlt', hr, hil, hil', hbi, aruleD, strs, ints, hd', hi1]
          refine callP c5 ?_
          simp -implicitDefEqProofs [h0, h2, h3, h4, h6, h13, h12, hg']
          repeat refine And.intro (by omega) ?_
          exact again hlt ⟨by simp [h0, arules, aruleD, strs, ints], by simp [h2], by simp [h3], by simp [h4], by simp [h6], by simp, some (k, al, su, ta, at_, ri), ⟨by simp, hkr⟩, hI⟩
        · have hg' : ¬ (depthU bt : Int) < depthU ta := by omega
          have hq : depthU ta = depthU bt := by omega
          by_cases ht : bl = true ∧ al = false
          · obtain ⟨rfl, rfl⟩ := ht
            have hp : pickB m k (some (i, true, bs, bt, ba, br)) (false, su, ta, at_, ri) = some (k, false, su, ta, at_, ri) := by unfold pickB; rw [if_pos hm]; simp [hbet, hg, hq]
            rw [hp] at hI
            simp -implicitDefEqProofs [h0, h2, h3, h4, h6, h13, h12, arules, hlt, hlt', hr, aruleD, strs, ints]
            refine callP c1 ?_
            simp -implicitDefEqProofs [h0, h2, h3, h4, h6, h13, h12, arules, hlt, hlt', hr, aruleD, strs, ints]
            refine callP c2 ?_
            simp -implicitDefEqProofs [h0, h2, h3, h4, h6, h13, h12, arules, hlt, hlt', hr, aruleD, strs, ints, hh]
            refine callP c3 ?_
            simp -implicitDefEqProofs [h0, h2, h3, h4, h6, h13, h12, arules, hlt, hlt', hr, hil, hil', hbi, aruleD, strs, ints]
            refine callP c4 ?_
            simp -implicitDefEqProofs [h0, h2, h3, h4, h6, h13, h12, arules, hlt, hlt', hr, hil, hil', hbi, aruleD, strs, ints]
            refine callP c5 ?_
            simp -implicitDefEqProofs [h0, h2, h3, h4, h6, h13, h12, arules, hlt, hlt', hr, hil, hil', hbi, aruleD, strs, ints, hd', hi1]
            refine callP c4 ?_
            simp -implicitDefEqProofs [h0, h2, h3, h4, h6, h13, h12, arules, hlt, hlt', hr, hil, hil', hbi, aruleD, strs, ints, hd', hi1]
            refine callP c5 ?_
            simp -implicitDefEqProofs [h0, h2, h3, h4, h6, h13, h12, arules, hlt, hlt', hr, hil, hil', hbi, aruleD, strs, ints, hg']
            repeat refine And.intro (by omega) ?_
            exact again hlt ⟨by simp [h0, arules, aruleD, strs, ints], by simp [h2], by simp [h3], by simp [h4], by simp [h6], by simp, some (k, false, su, ta, at_, ri), ⟨by simp, hkr⟩, hI⟩
          · have hp : pickB m k (some (i, bl, bs, bt, ba, br)) (al, su, ta, at_, ri) = some (i, bl, bs, bt, ba, br) := by
              unfold pickB
              rw [if_pos hm]
              cases bl <;> cases al <;> simp_all
            rw [hp] at hI
            have hbl : bl = false ∨ (bl = true ∧ al = true) := by cases bl <;> cases al <;> simp_all
            rcases hbl with rfl | ⟨rfl, rfl⟩
            · simp -implicitDefEqProofs [h0, h2, h3, h4, h6, h13, h12, arules, hlt, hlt', hr, aruleD, strs, ints]
              refine callP c1 ?_
              simp -implicitDefEqProofs [h0, h2, h3, h4, h6, h13, h12, arules, hlt, hlt', hr, aruleD, strs, ints]
              refine callP c2 ?_
              simp -implicitDefEqProofs [h0, h2, h3, h4, h6, h13, h12, arules, hlt, hlt', hr, aruleD, strs, ints, hh]
              refine callP c3 ?_
              simp -implicitDefEqProofs [h0, h2, h3, h4, h6, h13, h12, arules, hlt, hlt', hr, hil, hil', hbi, aruleD, strs, ints]
              refine callP c4 ?_
              simp -implicitDefEqProofs [h0, h2, h3, h4, h6, h13, h12, arules, hlt, hlt', hr, hil, hil', hbi, aruleD, strs, ints]
              refine callP c5 ?_
              simp -implicitDefEqProofs [h0, h2, h3, h4, h6, h13, h12, arules, hlt, hlt', hr, hil, hil', hbi, aruleD, strs, ints, hd', hi1]
              refine callP c4 ?_
              simp -implicitDefEqProofs [h0, h2, h3, h4, h6, h13, h12, arules, hlt, hlt', hr, hil, hil', hbi, aruleD, strs, ints, hd', hi1]
              refine callP c5 ?_
              simp -implicitDefEqProofs [h0, h2, h3, h4, h6, h13, h12, arules, hlt, hlt', hr, hil, hil', hbi, aruleD, strs, ints, hg']
              repeat refine And.intro (by omega) ?_
              exact again hlt ⟨by simp [h0, arules, aruleD, strs, ints], by simp [h2], by simp [h3], by simp [h4], by simp [h6], by simp, some (i, false, bs, bt, ba, br), ⟨by simp [h12], hil, hbe⟩, hI⟩
            · simp -implicitDefEqProofs [h0, h2, h3, h4, h6, h13, h12, arules, hlt, hlt', hr, aruleD, strs, ints]
              refine callP c1 ?_
              simp -implicitDefEqProofs [h0, h2, h3, h4, h6, h13, h12, arules, hlt, hlt', hr, aruleD, strs, ints]
              refine callP c2 ?_
              simp -implicitDefEqProofs [h0, h2, h3, h4, h6, h13, h12, arules, hlt, hlt', hr, aruleD, strs, ints, hh]
              refine callP c3 ?_
              simp -implicitDefEqProofs [h0, h2, h3, h4, h6, h13, h12, arules, hlt, hlt', hr, hil, hil', hbi, aruleD, strs, ints]
              refine callP c4 ?_
              simp -implicitDefEqProofs [h0, h2, h3, h4, h6, h13, h12, arules, hlt, hlt', hr, hil, hil', hbi, aruleD, strs, ints]
              refine callP c5 ?_
              simp -implicitDefEqProofs [h0, h2, h3, h4, h6, h13, h12, arules, hlt, hlt', hr, hil, hil', hbi, aruleD, strs, ints, hd', hi1]
              refine callP c4 ?_
              simp -implicitDefEqProofs [h0, h2, h3, h4, h6, h13, h12, arules, hlt, hlt', hr, hil, hil', hbi, aruleD, strs, ints, hd', hi1]
              refine callP c5 ?_
              simp -implicitDefEqProofs [h0, h2, h3, h4, h6, h13, h12, arules, hlt, hlt', hr, hil, hil', hbi, aruleD, strs, ints, hg']
              repeat refine And.intro (by omega) ?_
              exact again hlt ⟨by simp [h0, arules, aruleD, strs, ints], by simp [h2], by simp [h3], by simp [h4], by simp [h6], by simp, some (i, true, bs, bt, ba, br), ⟨by simp [h12], hil, hbe⟩, hI⟩
  · have hlt' : ¬ (k : Int) < l.length := by omega
    rw [List.drop_eq_nil_of_le (by omega), decGo] at hI
    subst hI
    cases b with
    | none =>
      have h12 : τ 12 = _ := hb
      simp -implicitDefEqProofs [h0, h12, h13, hlt', arules, bestO]
    | some x =>
      obtain ⟨i, b⟩ := x
      obtain ⟨h12, hil, hbi⟩ := hb
      have hil' : (i : Int) < l.length := by omega
      obtain ⟨bl, bs, bt, ba, br⟩ := b
      simp -implicitDefEqProofs [h0, h12, h13, hlt', hil, hil', hbi, arules, aruleD, strs, ints, bestO]
end Go.Proofs.Tz

/- Access lists: View, Writes, Visible, in both. -/
set_option maxRecDepth 100000
set_option maxHeartbeats 4000000
set_option linter.unusedVariables false
set_option linter.unusedSimpArgs false
namespace Go.Proofs.Tz
open Go.Vw Go.RowKit Go.Proofs

/-- An entry: its name, its attributes. -/
abbrev Ent := Str × List Att
def entD (e : Ent) : D := .agg [.str e.1, atts e.2]
def seenB (l : List ARule) (u : Subj) (n : Str) (a : Att) : Bool := (decP l u n a.1 1).1
def seenL (l : List ARule) (u : Subj) (e : Ent) : List Att := (sortedL e.2).filter (seenB l u e.1)
def viewP (l : List ARule) (u : Subj) (e : Ent) : Ent × Bool := if seenL l u e = [] then (([], []), false) else ((e.1, seenL l u e), true)

theorem sdx38 : structDX Tryz.prog true 38 = some [.str [], .raw (.slice none 0 0)] := by kernel_rfl
/-- The attributes so far: none yet, or named. -/
def AttsI (τ : St) (u : Value) (out : List Att) : Prop := (u = .slice none 0 0 ∧ τ 1000000 = .undef ∧ out = []) ∨ ∃ A c, u = .slice A out.length c ∧ τ 1000000 = .hs u 46 (out.map att)
theorem filter_snoc {α : Type} {p : α → Bool} {l : List α} {k : Nat} (h : k < l.length) : (l.take (k + 1)).filter p = (l.take k).filter p ++ (if p l[k] = true then [l[k]] else []) := by
  rw [take_s h, List.filter_append]
  congr 1
  by_cases hp : p l[k] = true <;> simp [hp]
theorem filter_take_len {α : Type} {p : α → Bool} (l : List α) (k : Nat) (hk : k ≤ l.length) : ((l.take k).filter p).length ≤ k := by
  have := List.length_filter_le p (l.take k)
  rw [List.length_take] at this
  omega

theorem viewG_fn (l : List ARule) (u : Subj) (e : Ent) (hl : FitARs l) (hu : FitU u) (hn : List.length e.1 < 900000) (ha : Fit2 e.2) (hs : Fits (sortedL e.2)) :
    CtrG Tryz.prog 20 [.d (arules l), .d (subjD u), .d (entD e)] [] (fun r hs => ∃ ys, r = .tup (ys.map .d) ∧ FzL hs ys [entD (viewP l u e).1, .bool (viewP l u e).2]) := by
  refine fn_of_vwpGN (rs := [.cell 6 38, .tmp 7]) (fun i => i == 1000015) (by kernel_rfl) Tryz.func20 (by kernel_rfl) rfl rfl (by simp) (Nat.le_of_ble_eq_true rfl) (by kernel_rfl) rfl ?_
  obtain ⟨R, hR⟩ : ∃ R, viewP l u e = R := ⟨_, rfl⟩
  rw [hR]
  obtain ⟨n, at_⟩ := e
  simp only at hn ha hs
  have c1 := sorted_fn at_ ha
  have c2 := fun (a : Str) (h : List.length a < 1000000) => decide_fn l u n a 1 hl hu hn h
  have hp : ∀ a : Att, seenB l u n a = (decP l u n a.1 1).1 := fun a => rfl
  unfold viewP seenL at hR
  simp only at hR
  generalize hS : sortedL at_ = S at *
  generalize seenB l u n = p at *
  obtain ⟨us, gs⟩ := u
  simp only [atts, subjD, strs, arules] at c1 c2
  simp -implicitDefEqProofs [initG, entD, atts, subjD, strs, arules, sdx38]
  refine callK c1 ?_
  simp -implicitDefEqProofs [initG]
  refine loopN S.length (fun k τ => τ 0 = .d (.sl (l.map aruleD)) ∧ τ 4 = .box (.agg [.str us, .sl (gs.map .str)]) ∧ τ 5 = .box (.agg [.str n, .sl (at_.map att)]) ∧ τ 6 = .box (.agg [.str [], .sl []]) ∧ τ 18 = .own false 46 (S.map att) ∧ τ 19 = .d (.int .i64 S.length) ∧ τ 20 = .d (.int .i64 k) ∧
    ∃ u, τ 8 = .box (.agg [.str n, .raw u]) ∧ AttsI τ u ((S.take k).filter p)) ?_ ?_
  · exact ⟨by simp [initG], by simp [initG], by simp [initG], by simp [initG], by simp, by simp, by simp, .slice none 0 0, by simp, .inl ⟨rfl, by simp [initG], by simp⟩⟩
  rintro k τ hk ⟨h0, h4, h5, h6, h18, h19, h20, v, h8, hv⟩
  have hfl := filter_take_len (p := p) S k hk
  by_cases hlt : k < S.length
  · have hlt' : (k : Int) < S.length := by omega
    have hfs := filter_snoc (p := p) hlt
    obtain ⟨f1, f2⟩ := hs.2 S[k] (List.getElem_mem hlt)
    have c3 := c2 S[k].1 f1
    have hpk := hp S[k]
    generalize hx : S[k] = x at *
    obtain ⟨an, av⟩ := x
    simp only at f1 f2 c3 hpk
    generalize decP l (us, gs) n an 1 = D at *
    obtain ⟨b, j⟩ := D
    simp only at hpk c3
    have hs1 := hs.1
    simp -implicitDefEqProofs [h0, h4, h5, h6, h18, h19, h20, h8, hlt, hlt', hx, att, strs]
    refine callK c3 ?_
    cases b with
    | false =>
      rw [hpk, if_neg (by simp), List.append_nil] at hfs
      simp -implicitDefEqProofs [h0, h4, h5, h6, h18, h19, h20, h8]
      repeat refine And.intro (by omega) ?_
      refine again hlt ⟨by simp [h0], by simp [h4], by simp [h5], by simp [h6], by simp [h18], by simp [h19], by simp, v, by simp [h8], ?_⟩
      rw [hfs]
      rcases hv with ⟨a1, a2, a3⟩ | ⟨A, c, a1, a2⟩
      · exact .inl ⟨a1, by simp [a2], a3⟩
      · exact .inr ⟨A, c, a1, by simp [a2]⟩
    | true =>
      rw [hpk, if_pos rfl] at hfs
      rcases hv with ⟨rfl, a2, a3⟩ | ⟨A, c, rfl, a2⟩
      · rw [a3, List.nil_append] at hfs
        simp -implicitDefEqProofs [h0, h4, h5, h6, h18, h19, h20, h8]
        refine appK0 1000000 (by simp [a2]) (by simp) (by simp) (by simp) (fun A c => ?_)
        simp -implicitDefEqProofs [h0, h4, h5, h6, h18, h19, h20, h8]
        repeat refine And.intro (by omega) ?_
        refine again hlt ⟨by simp [h0], by simp [h4], by simp [h5], by simp [h6], by simp [h18], by simp [h19], by simp, .slice A 1 c, by simp, .inr ⟨A, c, by rw [hfs]; rfl, by rw [hfs]; simp [att, strs]⟩⟩
      · generalize hq : (S.take k).filter p = q at *
        simp -implicitDefEqProofs [h0, h4, h5, h6, h18, h19, h20, h8]
        refine appK (l := q.map att) 1000000 (by simp [a2]) (by simp) (by simp; omega) (by simp; omega) (fun A c => ?_)
        simp -implicitDefEqProofs [h0, h4, h5, h6, h18, h19, h20, h8]
        repeat refine And.intro (by omega) ?_
        refine again hlt ⟨by simp [h0], by simp [h4], by simp [h5], by simp [h6], by simp [h18], by simp [h19], by simp, .slice A (q.length + 1) c, by simp, .inr ⟨A, c, by rw [hfs]; simp, by rw [hfs]; simp [att, strs]⟩⟩
  · have hlt' : ¬ (k : Int) < S.length := by omega
    rw [List.take_of_length_le (by omega)] at hv
    generalize S.filter p = q at *
    rcases hv with ⟨rfl, a2, rfl⟩ | ⟨A, c, rfl, a2⟩
    · rw [if_pos rfl] at hR
      subst hR
      simp -implicitDefEqProofs [h0, h4, h5, h6, h18, h19, h20, h8, hlt']
      exact ⟨[.d (.agg [.str [], .sl []]), .d (.bool false)], [], by simp, by simp, by simp [resDs, resD], [.agg [.str [], .sl []], .bool false], rfl, .cons (.same _) (.cons (.same _) .nil)⟩
    · by_cases hq0 : q = []
      · rw [if_pos hq0] at hR
        subst hR
        simp -implicitDefEqProofs [h0, h4, h5, h6, h18, h19, h20, h8, hlt', hq0]
        exact ⟨[.d (.agg [.str [], .sl []]), .d (.bool false)], [], by simp, by simp, by simp [resDs, resD], [.agg [.str [], .sl []], .bool false], rfl, .cons (.same _) (.cons (.same _) .nil)⟩
      · rw [if_neg hq0] at hR
        subst hR
        have hq1 : ¬ (q.length : Int) = 0 := by
          have := List.length_pos_iff.2 hq0; omega
        simp -implicitDefEqProofs [h0, h4, h5, h6, h18, h19, h20, h8, hlt', hq0, hq1]
        refine ⟨[.d (.agg [.str n, .raw (.slice A q.length c)]), .d (.bool true)], [1000000], by simp, by simp [isH, a2], by simp [resDs, resD], [.agg [.str n, .raw (.slice A q.length c)], .bool true], rfl, .cons (.agg (.cons (.same _) (.cons (.sl (e := 46) ?_) .nil))) (.cons (.same _) .nil)⟩
        simp [a2]
theorem view_fn (l : List ARule) (u : Subj) (e : Ent) (hl : FitARs l) (hu : FitU u) (hn : List.length e.1 < 900000) (ha : Fit2 e.2) (hs : Fits (sortedL e.2)) :
    Ctr Tryz.prog 20 [.d (arules l), .d (subjD u), .d (entD e)] (.tup [.d (entD (viewP l u e).1), .d (.bool (viewP l u e).2)]) :=
  (viewG_fn l u e hl hu hn ha hs).frozenT (ys' := [entD (viewP l u e).1, .bool (viewP l u e).2]) (by simp) (fun r hs h => h)

theorem viewGR_fn (l : List ARule) (u : Subj) (e : Ent) (hl : FitARs l) (hu : FitU u) (hn : List.length e.1 < 900000) (ha : Fit2 e.2) (hs : Fits (sortedL e.2)) :
    CtrG Tryz.prog 21 [.d (arules l), .d (subjD u), .d (entD e)] [] (fun r hs => ∃ ys, r = .tup (ys.map .d) ∧ FzL hs ys [entD (viewP l u e).1, .bool (viewP l u e).2]) := by
  refine fn_of_vwpGN (rs := [.cell 6 38, .tmp 7]) (fun i => i == 1000015) (by kernel_rfl) Tryz.func21 (by kernel_rfl) rfl rfl (by simp) (Nat.le_of_ble_eq_true rfl) (by kernel_rfl) rfl ?_
  obtain ⟨R, hR⟩ : ∃ R, viewP l u e = R := ⟨_, rfl⟩
  rw [hR]
  obtain ⟨n, at_⟩ := e
  simp only at hn ha hs
  have c1 := sortedR_fn at_ ha
  have c2 := fun (a : Str) (h : List.length a < 1000000) => decideR_fn l u n a 1 hl hu hn h
  have hp : ∀ a : Att, seenB l u n a = (decP l u n a.1 1).1 := fun a => rfl
  unfold viewP seenL at hR
  simp only at hR
  generalize hS : sortedL at_ = S at *
  generalize seenB l u n = p at *
  obtain ⟨us, gs⟩ := u
  simp only [atts, subjD, strs, arules] at c1 c2
  simp -implicitDefEqProofs [initG, entD, atts, subjD, strs, arules, sdx38]
  refine callK c1 ?_
  simp -implicitDefEqProofs [initG]
  refine loopN S.length (fun k τ => τ 0 = .d (.sl (l.map aruleD)) ∧ τ 4 = .box (.agg [.str us, .sl (gs.map .str)]) ∧ τ 5 = .box (.agg [.str n, .sl (at_.map att)]) ∧ τ 6 = .box (.agg [.str [], .sl []]) ∧ τ 9 = .own false 46 (S.map att) ∧ τ 10 = .d (.int .i64 k) ∧
    ∃ u, τ 8 = .box (.agg [.str n, .raw u]) ∧ AttsI τ u ((S.take k).filter p)) ?_ ?_
  · exact ⟨by simp [initG], by simp [initG], by simp [initG], by simp [initG], by simp, by simp, .slice none 0 0, by simp, .inl ⟨rfl, by simp [initG], by simp⟩⟩
  rintro k τ hk ⟨h0, h4, h5, h6, h9, h10, v, h8, hv⟩
  have hfl := filter_take_len (p := p) S k hk
  by_cases hlt : k < S.length
  · have hlt' : (k : Int) < S.length := by omega
    have hfs := filter_snoc (p := p) hlt
    obtain ⟨f1, f2⟩ := hs.2 S[k] (List.getElem_mem hlt)
    have c3 := c2 S[k].1 f1
    have hpk := hp S[k]
    generalize hx : S[k] = x at *
    obtain ⟨an, av⟩ := x
    simp only at f1 f2 c3 hpk
    generalize decP l (us, gs) n an 1 = D at *
    obtain ⟨b, j⟩ := D
    simp only at hpk c3
    have hs1 := hs.1
    simp -implicitDefEqProofs [h0, h4, h5, h6, h9, h10, h8, hlt, hlt', hx, att, strs]
    refine callP c3 ?_
    cases b with
    | false =>
      rw [hpk, if_neg (by simp), List.append_nil] at hfs
      simp -implicitDefEqProofs [h0, h4, h5, h6, h9, h10, h8]
      repeat refine And.intro (by omega) ?_
      refine again hlt ⟨by simp [h0], by simp [h4], by simp [h5], by simp [h6], by simp [h9], by simp, v, by simp [h8], ?_⟩
      rw [hfs]
      rcases hv with ⟨a1, a2, a3⟩ | ⟨A, c, a1, a2⟩
      · exact .inl ⟨a1, by simp [a2], a3⟩
      · exact .inr ⟨A, c, a1, by simp [a2]⟩
    | true =>
      rw [hpk, if_pos rfl] at hfs
      rcases hv with ⟨rfl, a2, a3⟩ | ⟨A, c, rfl, a2⟩
      · rw [a3, List.nil_append] at hfs
        simp -implicitDefEqProofs [h0, h4, h5, h6, h9, h10, h8, hlt, hx, att, strs]
        refine appK0 1000000 (by simp [a2]) (by simp) (by simp) (by simp) (fun A c => ?_)
        simp -implicitDefEqProofs [h0, h4, h5, h6, h9, h10, h8]
        repeat refine And.intro (by omega) ?_
        refine again hlt ⟨by simp [h0], by simp [h4], by simp [h5], by simp [h6], by simp [h9], by simp, .slice A 1 c, by simp, .inr ⟨A, c, by rw [hfs]; rfl, by rw [hfs]; simp [att, strs]⟩⟩
      · generalize hq : (S.take k).filter p = q at *
        simp -implicitDefEqProofs [h0, h4, h5, h6, h9, h10, h8, hlt, hx, att, strs]
        refine appK (l := q.map att) 1000000 (by simp [a2]) (by simp) (by simp; omega) (by simp; omega) (fun A c => ?_)
        simp -implicitDefEqProofs [h0, h4, h5, h6, h9, h10, h8]
        repeat refine And.intro (by omega) ?_
        refine again hlt ⟨by simp [h0], by simp [h4], by simp [h5], by simp [h6], by simp [h9], by simp, .slice A (q.length + 1) c, by simp, .inr ⟨A, c, by rw [hfs]; simp, by rw [hfs]; simp [att, strs]⟩⟩
  · have hlt' : ¬ (k : Int) < S.length := by omega
    rw [List.take_of_length_le (by omega)] at hv
    generalize S.filter p = q at *
    rcases hv with ⟨rfl, a2, rfl⟩ | ⟨A, c, rfl, a2⟩
    · rw [if_pos rfl] at hR
      subst hR
      simp -implicitDefEqProofs [h0, h4, h5, h6, h9, h10, h8, hlt']
      exact ⟨[.d (.agg [.str [], .sl []]), .d (.bool false)], [], by simp, by simp, by simp [resDs, resD], [.agg [.str [], .sl []], .bool false], rfl, .cons (.same _) (.cons (.same _) .nil)⟩
    · by_cases hq0 : q = []
      · rw [if_pos hq0] at hR
        subst hR
        simp -implicitDefEqProofs [h0, h4, h5, h6, h9, h10, h8, hlt', hq0]
        exact ⟨[.d (.agg [.str [], .sl []]), .d (.bool false)], [], by simp, by simp, by simp [resDs, resD], [.agg [.str [], .sl []], .bool false], rfl, .cons (.same _) (.cons (.same _) .nil)⟩
      · rw [if_neg hq0] at hR
        subst hR
        have hq1 : ¬ (q.length : Int) = 0 := by
          have := List.length_pos_iff.2 hq0; omega
        simp -implicitDefEqProofs [h0, h4, h5, h6, h9, h10, h8, hlt', hq0, hq1]
        refine ⟨[.d (.agg [.str n, .raw (.slice A q.length c)]), .d (.bool true)], [1000000], by simp, by simp [isH, a2], by simp [resDs, resD], [.agg [.str n, .raw (.slice A q.length c)], .bool true], rfl, .cons (.agg (.cons (.same _) (.cons (.sl (e := 46) ?_) .nil))) (.cons (.same _) .nil)⟩
        simp [a2]
theorem viewR_fn (l : List ARule) (u : Subj) (e : Ent) (hl : FitARs l) (hu : FitU u) (hn : List.length e.1 < 900000) (ha : Fit2 e.2) (hs : Fits (sortedL e.2)) :
    Ctr Tryz.prog 21 [.d (arules l), .d (subjD u), .d (entD e)] (.tup [.d (entD (viewP l u e).1), .d (.bool (viewP l u e).2)]) :=
  (viewGR_fn l u e hl hu hn ha hs).frozenT (ys' := [entD (viewP l u e).1, .bool (viewP l u e).2]) (by simp) (fun r hs h => h)
end Go.Proofs.Tz

/- Access lists: Writes, Visible, in both. -/
set_option maxRecDepth 100000
set_option maxHeartbeats 4000000
set_option linter.unusedVariables false
set_option linter.unusedSimpArgs false
namespace Go.Proofs.Tz
open Go.Vw Go.RowKit Go.Proofs

/-- A modification: its kind, its attribute, its values. -/
abbrev AMod := Int × Str × List Str
def amodD (m : AMod) : D := .agg [.int .i64 m.1, .str m.2.1, strs m.2.2]
def amods (l : List AMod) : D := .sl (l.map amodD)
def FitMods (l : List AMod) : Prop := l.length < 1000000 ∧ ∀ m ∈ l, List.length m.2.1 < 1000000
def writesB (l : List ARule) (u : Subj) (n : Str) (m : AMod) : Bool := !(decP l u n m.2.1 3).1
def writesP (l : List ARule) (u : Subj) (n : Str) (ms : List AMod) : Int := if ms.any (writesB l u n) = true then 11 else 0
def visB (l : List ARule) (u : Subj) (n : Str) (a : Str) : Bool := !(decP l u n a 2).1
def visP (l : List ARule) (u : Subj) (n : Str) (aa : List Str) : Bool := !((if aa = [] then [[]] else aa).any (visB l u n))

theorem denied_fn (l : List ARule) (u : Subj) (n : Str) (m : AMod) (hl : FitARs l) (hu : FitU u) (hn : List.length n < 900000) (hm : List.length m.2.1 < 1000000) :
    Ctr Tryz.prog 51 [.d (amodD m), .d (.ref (arules l)), .d (.ref (subjD u)), .d (.ref (.str n))] (.d (.bool (writesB l u n m))) := by
  refine fn_of_vwp (fun _ => false) (by kernel_rfl) Tryz.func51 (by kernel_rfl) rfl rfl (Nat.le_of_ble_eq_true rfl) (by kernel_rfl) rfl rfl ?_
  obtain ⟨o, mn, vs⟩ := m
  have c := decide_fn l u n mn 3 hl hu hn hm
  unfold writesB
  simp only
  generalize decP l u n mn 3 = D at *
  obtain ⟨b, j⟩ := D
  obtain ⟨us, gs⟩ := u
  simp only [subjD, strs, arules] at c
  simp -implicitDefEqProofs [amodD, subjD, strs, arules]
  refine callK c ?_
  simp -implicitDefEqProofs
theorem unseen_fn (l : List ARule) (u : Subj) (n : Str) (a : Str) (hl : FitARs l) (hu : FitU u) (hn : List.length n < 900000) (ha : List.length a < 1000000) :
    Ctr Tryz.prog 54 [.d (.str a), .d (.ref (arules l)), .d (.ref (subjD u)), .d (.ref (.str n))] (.d (.bool (visB l u n a))) := by
  refine fn_of_vwp (fun _ => false) (by kernel_rfl) Tryz.func54 (by kernel_rfl) rfl rfl (Nat.le_of_ble_eq_true rfl) (by kernel_rfl) rfl rfl ?_
  have c := decide_fn l u n a 2 hl hu hn ha
  unfold visB
  generalize decP l u n a 2 = D at *
  obtain ⟨b, j⟩ := D
  obtain ⟨us, gs⟩ := u
  simp only [subjD, strs, arules] at c
  simp -implicitDefEqProofs [subjD, strs, arules]
  refine callK c ?_
  simp -implicitDefEqProofs
theorem indexM_fn (g : FuncId) (cs : List D) (hcs : (cs.all fun c => !c.isAgg) = true) (p : AMod → Bool) (l : List AMod) (hl : l.length < 1000000) (hp : ∀ a ∈ l, Ctr Tryz.prog g ([.d (amodD a)] ++ cs.map .d) (.d (.bool (p a)))) :
    Ctr Tryz.prog 101 [.d (amods l), .d (.clo g cs)] (.d (.int .i64 (idxG p 0 l))) := by
  refine fn_of_vwp (fun _ => false) (by kernel_rfl) Tryz.func101 (by kernel_rfl) rfl rfl (Nat.le_of_ble_eq_true rfl) (by kernel_rfl) rfl rfl ?_
  simp -implicitDefEqProofs [amods]
  refine loopN l.length (fun k τ => τ 0 = .d (amods l) ∧ τ 1 = .d (.clo g cs) ∧ τ 7 = .d (.int .i64 l.length) ∧ τ 8 = .d (.int .i64 k) ∧ idxG p 0 l = idxG p k (l.drop k)) (by simp [amods]) ?_
  rintro k τ hk ⟨h0, h1, h7, h8, hi⟩
  by_cases hlt : k < l.length
  · rw [idxG_drop hlt] at hi
    have hf := hp _ (List.getElem_mem hlt)
    simp only [List.cons_append, List.nil_append, amodD, strs] at hf
    simp -implicitDefEqProofs [h0, h1, h7, h8, amods, amodD, strs, hlt]
    refine ⟨by simpa using hcs, callK hf ?_⟩
    by_cases he : p l[k] = true
    · simp -implicitDefEqProofs [h0, h1, h7, h8, hlt, he]
      rw [hi, if_pos he]
    · simp -implicitDefEqProofs [h0, h1, h7, h8, hlt, he]
      refine ⟨by omega, again hlt ⟨by simp [h0, amods, amodD, strs], by simp [h1], by simp [h7], by simp, ?_⟩⟩
      rw [hi, if_neg he]
  · simp -implicitDefEqProofs [h0, h1, h7, h8, hlt]
    rw [hi, List.drop_eq_nil_of_le (by omega)]
    simp -implicitDefEqProofs [idxG]
theorem containsM_fn (g : FuncId) (cs : List D) (hcs : (cs.all fun c => !c.isAgg) = true) (p : AMod → Bool) (l : List AMod) (hl : l.length < 1000000) (hp : ∀ a ∈ l, Ctr Tryz.prog g ([.d (amodD a)] ++ cs.map .d) (.d (.bool (p a)))) :
    Ctr Tryz.prog 52 [.d (amods l), .d (.clo g cs)] (.d (.bool (l.any p))) := by
  refine fn_of_vwp (fun _ => false) (by kernel_rfl) Tryz.func52 (by kernel_rfl) rfl rfl (Nat.le_of_ble_eq_true rfl) (by kernel_rfl) rfl rfl ?_
  rw [← idxG_any]
  simp -implicitDefEqProofs
  refine callK (indexM_fn g cs hcs p l hl hp) ?_
  simp -implicitDefEqProofs

theorem writes_fn (l : List ARule) (u : Subj) (n : Str) (ms : List AMod) (hl : FitARs l) (hu : FitU u) (hn : List.length n < 900000) (hm : FitMods ms) :
    Ctr Tryz.prog 23 [.d (arules l), .d (subjD u), .d (.str n), .d (amods ms)] (.d (.int .i64 (writesP l u n ms))) := by
  refine fn_of_vwp (fun _ => false) (by kernel_rfl) Tryz.func23 (by kernel_rfl) rfl rfl (Nat.le_of_ble_eq_true rfl) (by kernel_rfl) rfl rfl ?_
  have c := containsM_fn 51 [.ref (arules l), .ref (subjD u), .ref (.str n)] rfl (writesB l u n) ms hm.1 (fun m hm' => denied_fn l u n m hl hu hn (hm.2 m hm'))
  unfold writesP
  generalize ms.any (writesB l u n) = b at *
  obtain ⟨us, gs⟩ := u
  simp only [subjD, strs, arules, amods] at c
  simp -implicitDefEqProofs [subjD, strs, arules, amods]
  refine callK c ?_
  cases b <;> simp -implicitDefEqProofs
theorem visible_fn (l : List ARule) (u : Subj) (n : Str) (aa : List Str) (hl : FitARs l) (hu : FitU u) (hn : List.length n < 900000) (ha : aa.length < 1000000) (ha2 : ∀ a ∈ aa, List.length a < 1000000) :
    Ctr Tryz.prog 25 [.d (arules l), .d (subjD u), .d (.str n), .d (strs aa)] (.d (.bool (visP l u n aa))) := by
  refine fn_of_vwp (fun _ => false) (by kernel_rfl) Tryz.func25 (by kernel_rfl) rfl rfl (Nat.le_of_ble_eq_true rfl) (by kernel_rfl) rfl rfl ?_
  have c1 := containsFS_fn 54 [.ref (arules l), .ref (subjD u), .ref (.str n)] rfl (visB l u n) aa ha (fun a h => unseen_fn l u n a hl hu hn (ha2 a h))
  have c2 := containsFS_fn 54 [.ref (arules l), .ref (subjD u), .ref (.str n)] rfl (visB l u n) [[]] (by simp) (fun a h => unseen_fn l u n a hl hu hn (by rw [List.mem_singleton.1 h]; simp))
  unfold visP
  obtain ⟨us, gs⟩ := u
  by_cases h0 : aa = []
  · rw [if_pos h0]
    generalize List.any [[]] (visB l (us, gs) n) = b at *
    simp only [subjD, strs, arules, List.map_cons, List.map_nil] at c2
    simp -implicitDefEqProofs [subjD, strs, arules, h0]
    refine callK c2 ?_
    simp -implicitDefEqProofs
  · rw [if_neg h0]
    have h0' : ¬ (aa.length : Int) = 0 := by
      have := List.length_pos_iff.2 h0; omega
    generalize aa.any (visB l (us, gs) n) = b at *
    simp only [subjD, strs, arules] at c1
    simp -implicitDefEqProofs [subjD, strs, arules, h0, h0']
    refine callK c1 ?_
    simp -implicitDefEqProofs

theorem any_at {α : Type} {p : α → Bool} {l : List α} {k : Nat} (h : k < l.length) (hp : p l[k] = true) : l.any p = true := List.any_eq_true.2 ⟨_, List.getElem_mem h, hp⟩
theorem any_none {α : Type} {p : α → Bool} {l : List α} (h : ∀ x ∈ l, p x = false) : l.any p = false := by
  rw [List.any_eq_false]
  intro x hx
  rw [h x hx]; simp
theorem take_all_s {α : Type} {p : α → Bool} {l : List α} {k : Nat} (h : k < l.length) (ha : ∀ x ∈ l.take k, p x = false) (hp : p l[k] = false) : ∀ x ∈ l.take (k + 1), p x = false := by
  rw [take_s h]
  intro x hx
  rcases List.mem_append.1 hx with hx | hx
  · exact ha x hx
  · rw [List.mem_singleton.1 hx]; exact hp
/-- None of the first k has p. -/
def NoneT {α : Type} (p : α → Bool) (l : List α) (k : Nat) : Prop := ∀ x ∈ l.take k, p x = false
theorem NoneT.zero {α : Type} {p : α → Bool} {l : List α} : NoneT p l 0 := fun x hx => by simp at hx
theorem NoneT.succ {α : Type} {p : α → Bool} {l : List α} {k : Nat} (h : NoneT p l k) (hk : k < l.length) (hp : p l[k] = false) : NoneT p l (k + 1) := take_all_s hk h hp
theorem NoneT.all {α : Type} {p : α → Bool} {l : List α} {k : Nat} (h : NoneT p l k) (hk : ¬ k < l.length) : l.any p = false := any_none fun x hx => h x (by rw [List.take_of_length_le (by omega)]; exact hx)

theorem writesR_fn (l : List ARule) (u : Subj) (n : Str) (ms : List AMod) (hl : FitARs l) (hu : FitU u) (hn : List.length n < 900000) (hm : FitMods ms) :
    Ctr Tryz.prog 24 [.d (arules l), .d (subjD u), .d (.str n), .d (amods ms)] (.d (.int .i64 (writesP l u n ms))) := by
  refine fn_of_vwp (fun _ => false) (by kernel_rfl) Tryz.func24 (by kernel_rfl) rfl rfl (Nat.le_of_ble_eq_true rfl) (by kernel_rfl) rfl rfl ?_
  have hm1 := hm.1
  have hmd := fun (m : AMod) (h : m ∈ ms) => decideR_fn l u n m.2.1 3 hl hu hn (hm.2 m h)
  have hp : ∀ m : AMod, writesB l u n m = !(decP l u n m.2.1 3).1 := fun m => rfl
  unfold writesP
  generalize writesB l u n = p at *
  obtain ⟨R, hR⟩ : ∃ R, (if ms.any p = true then (11 : Int) else 0) = R := ⟨_, rfl⟩
  rw [hR]
  obtain ⟨us, gs⟩ := u
  simp only [subjD, strs, arules] at hmd
  simp -implicitDefEqProofs [subjD, strs, arules, amods]
  refine loopN ms.length (fun k τ => τ 0 = .d (.sl (l.map aruleD)) ∧ τ 2 = .d (.str n) ∧ τ 3 = .d (amods ms) ∧ τ 5 = .box (.agg [.str us, .sl (gs.map .str)]) ∧ τ 9 = .d (.int .i64 k) ∧ NoneT p ms k) ⟨by simp, by simp, by simp [amods], by simp, by simp, .zero⟩ ?_
  rintro k τ hk ⟨h0, h2, h3, h5, h9, hI⟩
  by_cases hlt : k < ms.length
  · have hlt' : (k : Int) < ms.length := by omega
    have c := hmd _ (List.getElem_mem hlt)
    have hpk := hp ms[k]
    have ha := any_at (p := p) hlt
    have hn2 := hI.succ hlt
    generalize hx : ms[k] = x at *
    obtain ⟨o, mn, vs⟩ := x
    simp only at c hpk
    generalize decP l (us, gs) n mn 3 = D at *
    obtain ⟨b, j⟩ := D
    simp only at c hpk
    simp -implicitDefEqProofs [h0, h2, h3, h5, h9, amods, hlt, hlt', hx, amodD, strs]
    refine callP c ?_
    cases b with
    | false =>
      rw [if_pos (ha hpk)] at hR
      simp -implicitDefEqProofs [h0, h2, h3, h5, h9, ← hR]
    | true =>
      simp -implicitDefEqProofs [h0, h2, h3, h5, h9]
      repeat refine And.intro (by omega) ?_
      exact again hlt ⟨by simp [h0], by simp [h2], by simp [h3, amods, amodD, strs], by simp [h5], by simp, hn2 hpk⟩
  · have hlt' : ¬ (k : Int) < ms.length := by omega
    rw [hI.all hlt, if_neg (by simp)] at hR
    simp -implicitDefEqProofs [h0, h2, h3, h5, h9, amods, hlt', ← hR]
theorem visibleR_fn (l : List ARule) (u : Subj) (n : Str) (aa : List Str) (hl : FitARs l) (hu : FitU u) (hn : List.length n < 900000) (ha : aa.length < 1000000) (ha2 : ∀ a ∈ aa, List.length a < 1000000) :
    Ctr Tryz.prog 26 [.d (arules l), .d (subjD u), .d (.str n), .d (strs aa)] (.d (.bool (visP l u n aa))) := by
  refine fn_of_vwp (fun _ => false) (by kernel_rfl) Tryz.func26 (by kernel_rfl) rfl rfl (Nat.le_of_ble_eq_true rfl) (by kernel_rfl) rfl rfl ?_
  have hmd := fun (a : Str) (h : a ∈ aa) => decideR_fn l u n a 2 hl hu hn (ha2 a h)
  have c0 := decideR_fn l u n [] 2 hl hu hn (by simp)
  have hp : ∀ a : Str, visB l u n a = !(decP l u n a 2).1 := fun m => rfl
  unfold visP
  generalize visB l u n = p at *
  obtain ⟨R, hR⟩ : ∃ R, (!((if aa = [] then [[]] else aa).any p)) = R := ⟨_, rfl⟩
  rw [hR]
  obtain ⟨us, gs⟩ := u
  simp only [subjD, strs, arules] at hmd c0
  simp -implicitDefEqProofs [subjD, strs, arules]
  refine loopN aa.length (fun k τ => τ 0 = .d (.sl (l.map aruleD)) ∧ τ 2 = .d (.str n) ∧ τ 3 = .d (strs aa) ∧ τ 5 = .box (.agg [.str us, .sl (gs.map .str)]) ∧ τ 9 = .d (.int .i64 k) ∧ NoneT p aa k) ⟨by simp, by simp, by simp [strs], by simp, by simp, .zero⟩ ?_
  rintro k τ hk ⟨h0, h2, h3, h5, h9, hI⟩
  by_cases hlt : k < aa.length
  · have hlt' : (k : Int) < aa.length := by omega
    have h00 : ¬ aa = [] := fun e => by rw [e] at hlt; simp at hlt
    rw [if_neg h00] at hR
    have c := hmd _ (List.getElem_mem hlt)
    have hpk := hp aa[k]
    have ha := any_at (p := p) hlt
    have hn2 := hI.succ hlt
    generalize hx : aa[k] = x at *
    generalize decP l (us, gs) n x 2 = D at *
    obtain ⟨b, j⟩ := D
    simp only at c hpk
    simp -implicitDefEqProofs [h0, h2, h3, h5, h9, strs, hlt, hlt', hx]
    refine callP c ?_
    cases b with
    | false =>
      rw [ha hpk] at hR
      simp -implicitDefEqProofs [h0, h2, h3, h5, h9, ← hR]
    | true =>
      simp -implicitDefEqProofs [h0, h2, h3, h5, h9]
      repeat refine And.intro (by omega) ?_
      exact again hlt ⟨by simp [h0], by simp [h2], by simp [h3, strs], by simp [h5], by simp, hn2 hpk⟩
  · have hlt' : ¬ (k : Int) < aa.length := by omega
    have hI2 := hI.all hlt
    by_cases h00 : aa = []
    · rw [if_pos h00] at hR
      have hpn := hp []
      generalize decP l (us, gs) n [] 2 = D at *
      obtain ⟨b, j⟩ := D
      simp only at c0 hpn
      have hRb : R = b := by
        rw [← hR]
        simp [hpn]
      simp -implicitDefEqProofs [h0, h2, h3, h5, h9, strs, hlt', h00]
      repeat refine And.intro (by omega) ?_
      refine callK c0 ?_
      simp -implicitDefEqProofs [hRb]
    · rw [if_neg h00, hI2] at hR
      have h00' : ¬ (aa.length : Int) = 0 := by
        have := List.length_pos_iff.2 h00; omega
      simp -implicitDefEqProofs [h0, h2, h3, h5, h9, strs, hlt', h00, h00', ← hR]
end Go.Proofs.Tz



/- strings.Join. -/
set_option linter.unusedVariables false
set_option linter.unusedSimpArgs false
namespace Go.Proofs.Tz
open Go.Vw Go.RowKit Go.Proofs

theorem bldX : Builder.Extra Tryz.prog Tryz.layJ_ren := {
  sizeBuilder := by kernel_rfl
  liesBuilder := by kernel_rfl
  t5 := Tryz.underlying5
  a5 := Tryz.isAgg5
  z5 := Tryz.sizeOf5
  v5 := Tryz.zeroValue5
  infoByte := by kernel_rfl
  cellsByte := by kernel_rfl
  sizeByte := by kernel_rfl
  neB5 := by decide }

theorem strs_cells {w : World} {L : Nat → Nat → Prop} : ∀ {l : List Str} {css : List (List Value)}, RepL w L (l.map .str) css → css.flatten = l.map fun s => Value.string ⟨s.toArray⟩
  | [], css, h => by simp only [List.map_nil, RepL] at h; subst h; rfl
  | c :: s, css, h => by
    simp only [List.map_cons, RepL, Rep] at h
    obtain ⟨c1, cs, rfl, rfl, h2⟩ := h
    simp [strs_cells (l := s) h2]

theorem join_fn (l : List Str) (sep : Str) (hl : l.length < 1000000) (hj : (Go.Lib.join l sep).length ≤ 140737488355328) : Ctr Tryz.prog 67 [.d (strs l), .d (.str sep)] (.d (.str (Go.Lib.join l sep))) := by
  refine ⟨enters_of Tryz.func67 (by kernel_rfl) rfl, fun w L og vals hlok hog hv => ?_⟩
  obtain ⟨v, us, rfl, h1, v2, us2, rfl, h2, h3⟩ := hv
  obtain rfl : us2 = [] := h3
  obtain rfl := RepV.str_inv h2
  have fin : ∀ w' st, Below w.heap.size w w' → st = Go.Lib.join l sep → ∃ v L' og', Ending.returned (.string ⟨st.toArray⟩) = .returned v ∧ GrownS w w' (optB og) ∧ (∀ b q, L' b q → b < w'.heap.size) ∧ (∀ b q, b < w.heap.size → ¬ optB og b → (L' b q ↔ L b q)) ∧
      (∀ g, og' = some g → g < w'.heap.size ∧ (w.heap.size ≤ g ∨ og = some g)) ∧ RC Tryz.prog w' L' og' (.d (.str (Go.Lib.join l sep))) v := by
    rintro w' st hb rfl
    exact ⟨_, L, none, rfl, ⟨hb.os, hb.tape, hb.output, hb.size, fun k hk _ => hb.block k hk⟩, fun b q hq => Nat.lt_of_lt_of_le (hlok b q hq) hb.size, fun _ _ _ _ => Iff.rfl, by simp, RepV.str⟩
  have hm : (l.map fun s => (⟨s.toArray⟩ : ByteArray)).map (·.data.toList) = l := by simp [Function.comp_def]
  have h1' : Rep w L (strs l) [v] := RepV.cell h1 rfl
  simp only [strs, Rep] at h1'
  obtain ⟨a, cap, css, sz, e1, e2, e3, e4, e5⟩ := h1'
  obtain rfl : v = .slice a (l.map D.str).length cap := by simpa using e1
  rw [List.length_map] at e4 ⊢
  by_cases hn : l = []
  · subst hn
    have h := Any.strings_Join_none Tryz.layJ bldX a cap ⟨sep.toArray⟩ w
    change Calls Tryz.prog 67 _ _ _ at h
    refine h.mono ?_
    rintro e w' ⟨rfl, rfl⟩
    exact fin _ [] (Below.refl _ _) rfl
  · obtain ⟨b, off, rfl, hat⟩ := e5 (by simpa using hn)
    have hcs := strs_cells e2
    have hcell : ∀ (j : Nat) x, (l.map fun s => (⟨s.toArray⟩ : ByteArray))[j]? = some x → w.cell? ⟨b, off + j, none⟩ = some (.string x) ∧ L b (off + j) := by
      intro j x hx
      refine hat j (.string x) ?_
      rw [hcs, List.getElem?_map]
      rw [List.getElem?_map] at hx
      obtain ⟨s, hs, rfl⟩ := Option.map_eq_some_iff.1 hx
      rw [hs]; rfl
    have hbk : b < w.heap.size := by
      obtain ⟨x, t, rfl⟩ := List.exists_cons_of_ne_nil hn
      exact hlok b _ (hcell 0 _ rfl).2
    have h := Any.strings_Join Tryz.layJ bldX b off cap (l.map fun s => (⟨s.toArray⟩ : ByteArray)) ⟨sep.toArray⟩ w (fun j x hx => (hcell j x hx).1) hbk (by simp; omega) (by simpa using e4) (by rw [hm]; simpa using hj)
    change Calls Tryz.prog 67 _ _ _ at h
    rw [hm] at h
    simp only [List.length_map] at h
    refine h.mono ?_
    rintro e w' ⟨rfl, hb⟩
    exact fin w' _ hb (by simp)
end Go.Proofs.Tz

/- Access lists: their text. -/
set_option maxRecDepth 100000
set_option maxHeartbeats 4000000
set_option linter.unusedVariables false
set_option linter.unusedSimpArgs false
namespace Go.Proofs.Tz
open Go.Vw Go.RowKit Go.Proofs

theorem joinB_len {c : UInt8} {n : Nat} : ∀ {l : List Str}, (∀ p ∈ l, List.length p ≤ n) → (joinB c l).length ≤ l.length * (n + 1)
  | [], _ => by simp [joinB]
  | [p], h => by have := h p (by simp); simp only [joinB, List.length_singleton]; omega
  | p :: q :: l, h => by
    have ih := joinB_len (c := c) (l := q :: l) (fun x hx => h x (by simp at hx ⊢; right; exact hx))
    have hp := h p (by simp)
    have e : joinB c (p :: q :: l) = p ++ c :: joinB c (q :: l) := rfl
    rw [e, List.length_append, List.length_cons, List.length_cons, Nat.succ_mul]
    omega
theorem joinC_fn (l : List Str) (c : UInt8) (hl : l.length < 1000000) (hj : (joinB c l).length ≤ 140737488355328) : Ctr Tryz.prog 67 [.d (strs l), .d (.str [c])] (.d (.str (joinB c l))) := by
  have := join_fn l [c] hl (by rw [join_joinB]; exact hj)
  rwa [join_joinB] at this

theorem rword_len (x : Int) : (rword x).length ≤ 6 := by
  unfold rword
  split
  · decide
  · split
    · decide
    · split
      · decide
      · split <;> decide
theorem aword_fn (x : Int) : Ctr Tryz.prog 66 [.d (.int .i64 x)] (.d (.str (rword x))) := by
  refine fn_of_vwp (fun _ => false) (by kernel_rfl) Tryz.func66 (by kernel_rfl) rfl rfl (Nat.le_of_ble_eq_true rfl) (by kernel_rfl) rfl rfl ?_
  unfold rword
  by_cases h1 : x = 1
  · simp -implicitDefEqProofs [h1]
  by_cases h2 : x = 2
  · simp -implicitDefEqProofs [h2]
  by_cases h3 : x = 3
  · simp -implicitDefEqProofs [h3]
  by_cases h4 : x = 4
  · simp -implicitDefEqProofs [h4]
  simp -implicitDefEqProofs [h1, h2, h3, h4]
theorem aorNone_fn (s : Str) : Ctr Tryz.prog 68 [.d (.str s)] (.d (.str (orD s))) := by
  refine fn_of_vwp (fun _ => false) (by kernel_rfl) Tryz.func68 (by kernel_rfl) rfl rfl (Nat.le_of_ble_eq_true rfl) (by kernel_rfl) rfl rfl ?_
  unfold orD
  by_cases h : s = []
  · simp -implicitDefEqProofs [h]
  · simp -implicitDefEqProofs [h]

theorem OkR.joins {r : ARule} (h : OkR r) : (joinB 44 r.2.2.2.1).length ≤ 2080 := by
  have := joinB_len (c := 44) (n := 64) (l := r.2.2.2.1) (fun p hp => nameB_len (h.attrs p hp))
  have := h.count
  omega
theorem rwords_len (l : List Int) : (joinB 44 (l.map rword)).length ≤ 7 * l.length := by
  have := joinB_len (c := 44) (n := 6) (l := l.map rword) (fun p hp => by
    obtain ⟨x, _, rfl⟩ := List.mem_map.1 hp
    exact rword_len x)
  rw [List.length_map] at this
  omega
theorem orD_len (s : Str) : (orD s).length ≤ s.length + 1 := by unfold orD; split <;> simp
theorem lineA_len {r : ARule} (h : OkR r) (hf : FitAR r) : (lineA r).length ≤ 100000000 := by
  have h1 := h.joins
  have h2 := rwords_len r.2.2.2.2
  have h3 := escS_len r.2.1
  have h4 := escS_len r.2.2.1
  have h5 := orD_len (escS r.2.2.1)
  have h6 := orD_len (joinB 44 r.2.2.2.1)
  have f1 := hf.subj
  have f2 := hf.targ
  have f3 := hf.rights
  have := joinB_len (c := 32) (n := 12000000) (l := lineW r) (fun p hp => by
    simp only [lineW, List.mem_cons, List.not_mem_nil, or_false] at hp
    rcases hp with rfl | rfl | rfl | rfl | rfl | rfl | rfl | rfl
    · cases r.1 <;> decide
    · omega
    · decide
    · omega
    · decide
    · omega
    · decide
    · omega)
  have e : (lineW r).length = 8 := rfl
  rw [lineA]
  omega

theorem aline_fn (r : ARule) (h : OkR r) (hf : FitAR r) : Ctr Tryz.prog 37 [.d (aruleD r)] (.d (.str (lineA r))) := by
  refine fn_of_vwp (fun _ => false) (by kernel_rfl) Tryz.func37 (by kernel_rfl) rfl rfl (Nat.le_of_ble_eq_true rfl) (by kernel_rfl) rfl rfl ?_
  have hll := lineA_len h hf
  have j1 := h.joins
  have j2 := rwords_len r.2.2.2.2
  obtain ⟨f1, f2, f3, f4, f5⟩ := hf
  obtain ⟨al, su, ta, at_, ri⟩ := r
  simp only at f1 f2 f3 f4 f5 j1 j2
  have c1 := escape_fn su (by omega)
  have c2 := escape_fn ta (by omega)
  have c3 := aorNone_fn (escS ta)
  have c4 := joinC_fn at_ 44 f3 (by omega)
  have c5 := aorNone_fn (joinB 44 at_)
  have c6 := joinC_fn (ri.map rword) 44 (by simp; omega) (by omega)
  have c7 := joinC_fn (lineW (al, su, ta, at_, ri)) 32 (by simp [lineW]) (by rw [lineA] at hll; omega)
  have hA : lineA (al, su, ta, at_, ri) = joinB 32 (lineW (al, su, ta, at_, ri)) := rfl
  rw [hA]
  simp only [strs, lineW, List.map_cons, List.map_nil] at c4 c6 c7
  simp only [lineW]
  generalize joinB 44 at_ = JA at *
  generalize orD JA = OA at *
  generalize orD (escS ta) = OT at *
  generalize joinB 44 (ri.map rword) = JR at *
  generalize hJ : joinB 32 [kindW al, escS su, onW, OT, attrsW, OA, rightsW, JR] = J at *
  have key : ∀ (kw : Str), kindW al = kw → True := fun _ _ => trivial
  cases al with
  | false =>
    simp only [kindW, Bool.false_eq_true, if_false] at c7
    simp -implicitDefEqProofs [aruleD, strs, ints]
    refine loopN ri.length (fun k τ => τ 1 = .box (.agg [.bool false, .str su, .str ta, .sl (at_.map .str), .sl (ri.map (.int .i64))]) ∧ τ 3 = .d (.str denyW) ∧ τ 4 = .own false 9 ((ri.map (D.str ∘ rword)).take k) ∧ τ 10 = .d (.sl (ri.map (.int .i64))) ∧ τ 11 = .d (.int .i64 ri.length) ∧ τ 12 = .d (.int .i64 k)) ⟨by simp, by simp, by simp, by simp, by simp, by simp⟩ ?_
    rintro k τ hk ⟨h1, h3, h4, h10, h11, h12⟩
    by_cases hlt : k < ri.length
    · have hlt' : (k : Int) < ri.length := by omega
      have hts : List.take (k + 1) (ri.map (D.str ∘ rword)) = List.take k (ri.map (D.str ∘ rword)) ++ [D.str (rword ri[k])] := by
        rw [take_s (by simpa using hlt)]; simp
      simp -implicitDefEqProofs [h1, h3, h4, h10, h11, h12, hlt, hlt']
      refine callK (aword_fn ri[k]) ?_
      simp -implicitDefEqProofs [h1, h3, h4, h10, h11, h12]
      repeat refine And.intro (by omega) ?_
      exact again hlt ⟨by simp [h1], by simp [h3], by simp [hts], by simp [h10], by simp [h11], by simp⟩
    · have hlt' : ¬ (k : Int) < ri.length := by omega
      rw [List.take_of_length_le (by simp; omega)] at h4
      simp -implicitDefEqProofs [h1, h3, h4, h10, h11, h12, hlt']
      refine callP c1 ?_
      simp -implicitDefEqProofs [h1, h3, h4, h10, h11, h12]
      refine callP c2 ?_
      simp -implicitDefEqProofs [h1, h3, h4, h10, h11, h12]
      refine callP c3 ?_
      simp -implicitDefEqProofs [h1, h3, h4, h10, h11, h12]
      refine callP c4 ?_
      simp -implicitDefEqProofs [h1, h3, h4, h10, h11, h12]
      refine callP c5 ?_
      simp -implicitDefEqProofs [h1, h3, h4, h10, h11, h12]
      simp only [List.map_map] at c6
      refine callP c6 ?_
      simp -implicitDefEqProofs [h1, h3, h4, h10, h11, h12]
      refine ⟨by decide, ?_⟩
      refine callP c7 ?_
      simp -implicitDefEqProofs
  | true =>
    simp only [kindW, if_true] at c7
    simp -implicitDefEqProofs [aruleD, strs, ints]
    refine loopN ri.length (fun k τ => τ 1 = .box (.agg [.bool true, .str su, .str ta, .sl (at_.map .str), .sl (ri.map (.int .i64))]) ∧ τ 3 = .d (.str allowW) ∧ τ 4 = .own false 9 ((ri.map (D.str ∘ rword)).take k) ∧ τ 10 = .d (.sl (ri.map (.int .i64))) ∧ τ 11 = .d (.int .i64 ri.length) ∧ τ 12 = .d (.int .i64 k)) ⟨by simp, by simp, by simp, by simp, by simp, by simp⟩ ?_
    rintro k τ hk ⟨h1, h3, h4, h10, h11, h12⟩
    by_cases hlt : k < ri.length
    · have hlt' : (k : Int) < ri.length := by omega
      have hts : List.take (k + 1) (ri.map (D.str ∘ rword)) = List.take k (ri.map (D.str ∘ rword)) ++ [D.str (rword ri[k])] := by
        rw [take_s (by simpa using hlt)]; simp
      simp -implicitDefEqProofs [h1, h3, h4, h10, h11, h12, hlt, hlt']
      refine callK (aword_fn ri[k]) ?_
      simp -implicitDefEqProofs [h1, h3, h4, h10, h11, h12]
      repeat refine And.intro (by omega) ?_
      exact again hlt ⟨by simp [h1], by simp [h3], by simp [hts], by simp [h10], by simp [h11], by simp⟩
    · have hlt' : ¬ (k : Int) < ri.length := by omega
      rw [List.take_of_length_le (by simp; omega)] at h4
      simp -implicitDefEqProofs [h1, h3, h4, h10, h11, h12, hlt']
      refine callP c1 ?_
      simp -implicitDefEqProofs [h1, h3, h4, h10, h11, h12]
      refine callP c2 ?_
      simp -implicitDefEqProofs [h1, h3, h4, h10, h11, h12]
      refine callP c3 ?_
      simp -implicitDefEqProofs [h1, h3, h4, h10, h11, h12]
      refine callP c4 ?_
      simp -implicitDefEqProofs [h1, h3, h4, h10, h11, h12]
      refine callP c5 ?_
      simp -implicitDefEqProofs [h1, h3, h4, h10, h11, h12]
      simp only [List.map_map] at c6
      refine callP c6 ?_
      simp -implicitDefEqProofs [h1, h3, h4, h10, h11, h12]
      refine ⟨by decide, ?_⟩
      refine callP c7 ?_
      simp -implicitDefEqProofs

theorem OkR.all {l : List ARule} (h : checkAR l = 0) : l.length ≤ 64 ∧ ∀ r ∈ l, OkR r := by
  obtain ⟨h1, h2⟩ := checkAR_zero.1 h
  exact ⟨h1, fun r hr => OkR.of (h2 r hr)⟩
theorem pLinesA_len {l : List ARule} (hl : FitARs l) (h : ∀ r ∈ l, OkR r) (k : Nat) (hk : k ≤ l.length) : (pLines lineA (l.take k)).length ≤ k * 100000001 := by
  have := pLines_len (w := lineA) (n := 100000000) (l := l.take k) (fun r hr => lineA_len (h r (List.mem_of_mem_take hr)) (hl.2 r (List.mem_of_mem_take hr)))
  rw [List.length_take, Nat.min_eq_left hk] at this
  exact this

theorem atext_fn (l : List ARule) (hl : FitARs l) : Ctr Tryz.prog 11 [.d (arules l)] (.tup [.d (.str (textA l).1), .d (.int .i64 (textA l).2)]) := by
  refine fn_of_vwpN (rv := .tmp 2) (rs := [.tmp 3]) (r := .d (.str (textA l).1)) (ys := [.d (.int .i64 (textA l).2)]) (fun i => i == 1000005 || i == 5000022 || i == 5000024 || i == 5000026) (by kernel_rfl) Tryz.func11 (by kernel_rfl) rfl rfl (by simp) (Nat.le_of_ble_eq_true rfl) (by kernel_rfl) rfl rfl ?_
  have c0 := checkAR_fn l hl
  simp only [arules] at c0 ⊢
  simp -implicitDefEqProofs
  refine callK c0 ?_
  by_cases hc : checkAR l = 0
  case neg => simp -implicitDefEqProofs [hc, textA]
  obtain ⟨h64, hok⟩ := OkR.all hc
  simp -implicitDefEqProofs [hc]
  refine newK2 1000000 1000001 5 (by simp) (by kernel_rfl) (by simp) (by simp) (fun b => ?_)
  simp -implicitDefEqProofs
  refine loopN l.length (fun k τ => τ 13 = .d (.sl (l.map aruleD)) ∧ τ 14 = .d (.int .i64 l.length) ∧ τ 15 = .d (.int .i64 k) ∧ τ 5 = .d (.raw (va b)) ∧ BldAt τ b (pLines lineA (l.take k))) ?_ ?_
  · exact ⟨by simp, by simp, by simp, by simp, .nilp, .slice none 0 0, .inl rfl, by simp [zTX61], by simp [pLines, bytesD]⟩
  rintro k τ hk ⟨h13, h14, h15, h5, p, hd, hp, hb, hh⟩
  have hbl := pLinesA_len hl hok k hk
  by_cases hlt : k < l.length
  · have hlt' : (k : Int) < l.length := by omega
    have hs := pLines_take (w := lineA) hlt
    have hlen := lineA_len (hok _ (List.getElem_mem hlt)) (hl.2 _ (List.getElem_mem hlt))
    have c1 := aline_fn l[k] (hok _ (List.getElem_mem hlt)) (hl.2 _ (List.getElem_mem hlt))
    generalize hr : l[k] = r at *
    obtain ⟨al, su, ta, at_, ri⟩ := r
    generalize lineA (al, su, ta, at_, ri) = W at *
    simp only [aruleD, strs, ints] at c1
    simp -implicitDefEqProofs [h13, h14, h15, h5, hlt, hlt', aruleD, strs, ints, hr]
    refine callK c1 ?_
    simp -implicitDefEqProofs [h13, h14, h15, h5, hlt, hlt', aruleD, strs, ints, hr]
    repeat refine And.intro (by omega) ?_
    refine givB [1000000, 1000001] 1000000 (writeString_fn (s := pLines lineA (l.take k)) (hd := hd) hp (W ++ [10]) (by simp only [List.length_append, List.length_cons, List.length_nil]; omega)) (by simp [hb, hh]) rfl (by simp) ?_
    rintro r hs' ⟨hd1, rfl⟩
    simp -implicitDefEqProofs [h13, h14, h15, h5, hlt, hlt', takeH, putH]
    repeat refine And.intro (by omega) ?_
    refine again hlt ⟨by simp [h13], by simp [h14], by simp, by simp [h5], .raw (va b), hd1, .inr rfl, by simp, by simp [hs]⟩
  · rw [List.take_of_length_le (by omega)] at hh
    have hlt' : ¬ (k : Int) < l.length := by omega
    simp -implicitDefEqProofs [h13, h14, h15, h5, hlt, hlt']
    refine givB [1000000, 1000001] 1000000 (bLen_fn (s := pLines lineA l) (hd := hd) hp) (by simp [hb, hh]) rfl (by simp) ?_
    rintro r hs' ⟨rfl, rfl⟩
    by_cases h4 : 4096 < (pLines lineA l).length
    · have h4' : (4096 : Int) < (pLines lineA l).length := by omega
      simp -implicitDefEqProofs [h13, h14, h15, h5, hlt, hlt', takeH, putH, h4', textA, hc, h4]
    · have h4' : ¬ (4096 : Int) < (pLines lineA l).length := by omega
      simp -implicitDefEqProofs [h13, h14, h15, h5, hlt, hlt', takeH, putH, h4']
      refine givB [1000000, 1000001] 1000000 (string_fn (b := b) (s := pLines lineA l) (hd := hd) hp) (by simp) rfl (by simp) ?_
      rintro r hs' ⟨rfl, rfl⟩
      simp -implicitDefEqProofs [h13, h14, h15, h5, hlt, hlt', takeH, putH, textA, hc, h4]
end Go.Proofs.Tz

/- Access lists: what a text says. -/
set_option maxRecDepth 100000
set_option maxHeartbeats 4000000
set_option linter.unusedVariables false
set_option linter.unusedSimpArgs false
namespace Go.Proofs.Tz
open Go.Vw Go.RowKit Go.Proofs

def optI (o : Option (List Int)) : List Int × Bool := match o with
  | some l => (l, true)
  | none => ([], false)
/-- The right of a word, if it is among the first k. -/
def hitW (w : Str) (k : Nat) : List Int := match wordV w with
  | some y => if y ≤ k then [y] else []
  | none => []
theorem hitW_zero (w : Str) : hitW w 0 = [] := by
  unfold hitW
  cases h : wordV w with
  | none => rfl
  | some y =>
    have := (rword_wordV h).2.1
    simp only
    rw [if_neg (by omega)]
theorem hitW_yes {w : Str} {k : Nat} (hk : k < 5) (h : rword ((k : Int) + 1) = w) : hitW w k = [] ∧ hitW w (k + 1) = [(k : Int) + 1] := by
  have hv : wordV w = some ((k : Int) + 1) := by rw [← h, wordV_rword (by omega)]
  unfold hitW
  rw [hv]
  simp only
  exact ⟨by rw [if_neg (by omega)], by rw [if_pos (by omega)]⟩
theorem hitW_no {w : Str} {k : Nat} (hk : k < 5) (h : ¬ rword ((k : Int) + 1) = w) : hitW w (k + 1) = hitW w k := by
  unfold hitW
  cases hv : wordV w with
  | none => rfl
  | some y =>
    obtain ⟨e, h1, h2⟩ := rword_wordV hv
    have hne : y ≠ (k : Int) + 1 := fun q => h (by rw [← q]; exact e.symm)
    simp only
    by_cases h3 : y ≤ k
    · rw [if_pos h3, if_pos (by omega)]
    · rw [if_neg h3, if_neg (by omega)]
theorem hitW_end (w : Str) : hitW w 5 = (wordV w).toList := by
  unfold hitW
  cases hv : wordV w with
  | none => rfl
  | some y =>
    obtain ⟨e, h1, h2⟩ := rword_wordV hv
    simp only
    rw [if_pos (by omega)]
    rfl
theorem rightsL_drop {ws : List Str} {k : Nat} (h : k < ws.length) : rightsL (ws.drop k) = match wordV ws[k] with
    | some x => (rightsL (ws.drop (k + 1))).map (x :: ·)
    | none => none := by rw [drop_c h]; rfl

def RrI (ws : List Str) (out : List Int) (w : Str) (k j : Nat) (τ : St) : Prop := τ 12 = .own false 9 (ws.map .str) ∧ τ 13 = .d (.int .i64 ws.length) ∧ τ 14 = .d (.int .i64 k) ∧ τ 6 = .d (.str w) ∧ τ 8 = .d (.int .i64 ((j : Int) + 1)) ∧
  τ 7 = .d (.bool (!(hitW w j).isEmpty)) ∧ τ 4 = .own false 53 ((out ++ hitW w j).map (.int .i64))
theorem readRights_fn (s : Str) (hs : List.length s < 900000) : Ctr Tryz.prog 74 [.d (.str s)] (.tup [.d (ints (optI (rightsP s)).1), .d (.bool (optI (rightsP s)).2)]) := by
  refine fn_of_vwpN (rv := .tmp 2) (rs := [.tmp 3]) (r := .d (ints (optI (rightsP s)).1)) (ys := [.d (.bool (optI (rightsP s)).2)]) (fun i => false) (by kernel_rfl) Tryz.func74 (by kernel_rfl) rfl rfl (by simp) (Nat.le_of_ble_eq_true rfl) (by kernel_rfl) rfl rfl ?_
  by_cases hd : s = [45]
  · simp -implicitDefEqProofs [hd, rightsP, optI, ints]
  have c1 := split_fn s 44 (by omega)
  have hlen := splitB_len 44 s
  have hcl : s.count 44 ≤ s.length := List.count_le_length
  rw [rightsP, if_neg hd]
  generalize splitB 44 s = ws at *
  obtain ⟨R, hR⟩ : ∃ R, optI (rightsL ws) = R := ⟨_, rfl⟩
  rw [hR]
  simp -implicitDefEqProofs [hd]
  refine callK c1 ?_
  simp -implicitDefEqProofs
  refine loopN ws.length (fun k τ => τ 12 = .own false 9 (ws.map .str) ∧ τ 13 = .d (.int .i64 ws.length) ∧ τ 14 = .d (.int .i64 k) ∧ ∃ out : List Int, out.length = k ∧ τ 4 = .own false 53 (out.map (.int .i64)) ∧ optI ((rightsL (ws.drop k)).map (out ++ ·)) = R) ?_ ?_
  · exact ⟨by simp, by simp, by simp, [], rfl, by simp, by simpa using hR⟩
  rintro k τ hk ⟨h12, h13, h14, out, ho, h4, hI⟩
  by_cases hlt : k < ws.length
  · have hlt' : (k : Int) < ws.length := by omega
    rw [rightsL_drop hlt] at hI
    generalize hw : ws[k] = w at *
    simp -implicitDefEqProofs [h12, h13, h14, h4, hlt, hlt', hw]
    refine loopN 5 (RrI ws out w k) ⟨by simp [h12], by simp [h13], by simp [h14], by simp, by simp, by simp [hitW_zero], by simp [hitW_zero, h4]⟩ ?_
    clear h12 h13 h14 h4 τ
    rintro j τ hj ⟨h12, h13, h14, h6, h8, h7, h4⟩
    by_cases hjl : j < 5
    · have hjl' : (j : Int) + 1 ≤ 5 := by omega
      have hhl : (hitW w j).length ≤ 1 := by
        unfold hitW
        split
        · split <;> simp
        · simp
      by_cases hq : rword ((j : Int) + 1) = w
      · obtain ⟨e1, e2⟩ := hitW_yes hjl hq
        rw [e1] at h4 h7
        simp -implicitDefEqProofs [h12, h13, h14, h6, h8, h7, h4, hjl']
        refine callK (aword_fn ((j : Int) + 1)) ?_
        simp -implicitDefEqProofs [h12, h13, h14, h6, h8, h7, h4, hq]
        repeat refine And.intro (by omega) ?_
        exact again hjl ⟨by simp [h12], by simp [h13], by simp [h14], by simp [h6], by simp, by simp [e2], by simp [e2]⟩
      · have e1 := hitW_no hjl hq
        simp -implicitDefEqProofs [h12, h13, h14, h6, h8, h7, h4, hjl']
        refine callK (aword_fn ((j : Int) + 1)) ?_
        simp -implicitDefEqProofs [h12, h13, h14, h6, h8, h7, h4, hq]
        repeat refine And.intro (by omega) ?_
        exact again hjl ⟨by simp [h12], by simp [h13], by simp [h14], by simp [h6], by simp, by simp [e1, h7], by simp [e1, h4]⟩
    · have hj5 : j = 5 := by omega
      subst hj5
      rw [hitW_end] at h7 h4
      cases hv : wordV w with
      | none =>
        rw [hv] at hI h7 h4
        simp only [Option.map_none, optI] at hI
        subst hI
        simp -implicitDefEqProofs [h12, h13, h14, h6, h8, h7, h4, ints]
      | some y =>
        rw [hv] at hI h7 h4
        simp -implicitDefEqProofs [h12, h13, h14, h6, h8, h7, h4]
        repeat refine And.intro (by omega) ?_
        refine again hlt ⟨by simp [h12], by simp [h13], by simp, out ++ [y], by simp [ho], by simp [h4], ?_⟩
        rw [← hI]
        cases rightsL (ws.drop (k + 1)) <;> simp [optI]
  · have hlt' : ¬ (k : Int) < ws.length := by omega
    rw [List.drop_eq_nil_of_le (by omega), rightsL] at hI
    simp only [Option.map_some, List.append_nil, optI] at hI
    subst hI
    simp -implicitDefEqProofs [h12, h13, h14, h4, hlt', ints]

/-! ### a line -/
def readT (o : Option ARule) : ARule × Bool := match o with
  | some r => (r, true)
  | none => ((false, [], [], [], []), false)
theorem len8 {α : Type} {l : List α} (h : l.length = 8) : ∃ a b c d e f g k, l = [a, b, c, d, e, f, g, k] := by
  match l, h with
  | [a, b, c, d, e, f, g, k], _ => exact ⟨a, b, c, d, e, f, g, k, rfl⟩
theorem ruleOf_len {l : List Str} (h : l.length ≠ 8) : ruleOf l = none := by
  match l with
  | [] => rfl
  | [_] => rfl
  | [_, _] => rfl
  | [_, _, _] => rfl
  | [_, _, _, _] => rfl
  | [_, _, _, _, _] => rfl
  | [_, _, _, _, _, _] => rfl
  | [_, _, _, _, _, _, _] => rfl
  | [_, _, _, _, _, _, _, _] => exact absurd rfl h
  | _ :: _ :: _ :: _ :: _ :: _ :: _ :: _ :: _ :: _ => rfl
theorem ruleOf_no {a b c d e f g h : Str} (hn : ¬ ((a = allowW ∨ a = denyW) ∧ c = onW ∧ e = attrsW ∧ g = rightsW ∧ b ≠ [] ∧ d ≠ [] ∧ f ≠ [])) : ruleOf [a, b, c, d, e, f, g, h] = none := by
  simp only [ruleOf]
  rw [if_neg hn]

theorem aread_fn (s : Str) (hs : List.length s < 900000) : Ctr Tryz.prog 42 [.d (.str s)] (.tup [.d (aruleD (readT (readA s)).1), .d (.bool (readT (readA s)).2)]) := by
  refine fn_of_vwpN (rv := .cell 2 58) (rs := [.tmp 3]) (r := .d (aruleD (readT (readA s)).1)) (ys := [.d (.bool (readT (readA s)).2)]) (fun i => false) (by kernel_rfl) Tryz.func42 (by kernel_rfl) rfl rfl (by simp) (Nat.le_of_ble_eq_true rfl) (by kernel_rfl) rfl rfl ?_
  have c1 := split_fn s 32 (by omega)
  have hle := splitB_le 32 s
  unfold readA
  generalize splitB 32 s = ws at *
  by_cases h8 : ws.length = 8
  case neg =>
    have h8' : ¬ (ws.length : Int) = 8 := by omega
    rw [ruleOf_len h8]
    simp -implicitDefEqProofs
    refine callK c1 ?_
    simp -implicitDefEqProofs [h8', readT, aruleD, strs, ints]
  obtain ⟨a, b, c, d, e, f, g, h, rfl⟩ := len8 h8
  have lb := hle b (by simp)
  have ld := hle d (by simp)
  have lf := hle f (by simp)
  have lh := hle h (by simp)
  simp only [List.map_cons, List.map_nil] at c1
  have c2 := unescape_fn b (by omega)
  have c3 := unescape_fn d (by omega)
  have c4 := readRights_fn h (by omega)
  have c5 := split_fn f 44 (by omega)
  simp only [ints] at c4
  clear hle h8
  by_cases h0 : a = allowW ∨ a = denyW
  case neg =>
    rw [ruleOf_no (fun q => h0 q.1)]
    simp only [not_or] at h0
    obtain ⟨h01, h02⟩ := h0
    simp -implicitDefEqProofs
    refine callK c1 ?_
    simp -implicitDefEqProofs [h01, h02, readT, aruleD, strs, ints]
  by_cases hc : c = onW
  case neg =>
    rw [ruleOf_no (fun q => hc q.2.1)]
    have hc' : ¬ c = [111, 110] := hc
    rcases h0 with h0 | h0
    · simp -implicitDefEqProofs
      refine callK c1 ?_
      simp -implicitDefEqProofs [h0, hc', readT, aruleD, strs, ints]
    · simp -implicitDefEqProofs
      refine callK c1 ?_
      simp -implicitDefEqProofs [h0, hc', readT, aruleD, strs, ints]
  by_cases he : e = attrsW
  case neg =>
    rw [ruleOf_no (fun q => he q.2.2.1)]
    have he' : ¬ e = [97, 116, 116, 114, 115] := he
    rcases h0 with h0 | h0
    · simp -implicitDefEqProofs
      refine callK c1 ?_
      simp -implicitDefEqProofs [h0, hc, he', readT, aruleD, strs, ints]
    · simp -implicitDefEqProofs
      refine callK c1 ?_
      simp -implicitDefEqProofs [h0, hc, he', readT, aruleD, strs, ints]
  by_cases hg : g = rightsW
  case neg =>
    rw [ruleOf_no (fun q => hg q.2.2.2.1)]
    have hg' : ¬ g = [114, 105, 103, 104, 116, 115] := hg
    rcases h0 with h0 | h0
    · simp -implicitDefEqProofs
      refine callK c1 ?_
      simp -implicitDefEqProofs [h0, hc, he, hg', readT, aruleD, strs, ints]
    · simp -implicitDefEqProofs
      refine callK c1 ?_
      simp -implicitDefEqProofs [h0, hc, he, hg', readT, aruleD, strs, ints]
  by_cases hf : f = []
  · rw [ruleOf_no (fun q => q.2.2.2.2.2.2 hf)]
    rcases h0 with h0 | h0
    · simp -implicitDefEqProofs
      refine callK c1 ?_
      simp -implicitDefEqProofs [h0, hc, he, hg, hf, readT, aruleD, strs, ints]
    · simp -implicitDefEqProofs
      refine callK c1 ?_
      simp -implicitDefEqProofs [h0, hc, he, hg, hf, readT, aruleD, strs, ints]
  -- the rest does not look at the kind until the end
  have hgo : ∀ (kw : Str), a = kw → (kw = allowW ∨ kw = denyW) → True := fun _ _ _ => trivial
  obtain ⟨O, hO⟩ : ∃ O, ruleOf [a, b, c, d, e, f, g, h] = O := ⟨_, rfl⟩
  rw [hO]
  simp only [ruleOf] at hO
  have hcond : ((a = allowW ∨ a = denyW) ∧ c = onW ∧ e = attrsW ∧ g = rightsW ∧ b ≠ [] ∧ d ≠ [] ∧ f ≠ []) ↔ (b ≠ [] ∧ d ≠ []) := ⟨fun q => ⟨q.2.2.2.2.1, q.2.2.2.2.2.1⟩, fun q => ⟨h0, hc, he, hg, q.1, q.2, hf⟩⟩
  simp only [hcond] at hO
  subst hc he hg
  have kx : ∀ {O' : Option ARule}, O = O' → O = O' := fun h => h
  cases hub : unesc b with
  | none =>
    have hO2 : O = none := by rw [← hO, hub]; split <;> rfl
    rcases h0 with rfl | rfl
    all_goals
      simp -implicitDefEqProofs
      refine callK c1 ?_
      simp -implicitDefEqProofs [hf]
      refine callK c2 ?_
      simp -implicitDefEqProofs [unescP_none hub]
      refine callK c3 ?_
      simp -implicitDefEqProofs 
      refine callK c4 ?_
      simp -implicitDefEqProofs [hO2, readT, aruleD, strs, ints]
  | some x =>
  cases hud : unesc d with
  | none =>
    have hO2 : O = none := by rw [← hO, hub, hud]; split <;> rfl
    rcases h0 with rfl | rfl
    all_goals
      simp -implicitDefEqProofs
      refine callK c1 ?_
      simp -implicitDefEqProofs [hf]
      refine callK c2 ?_
      simp -implicitDefEqProofs [unescP_some hub]
      refine callK c3 ?_
      simp -implicitDefEqProofs [unescP_none hud]
      refine callK c4 ?_
      simp -implicitDefEqProofs [hO2, readT, aruleD, strs, ints]
  | some y =>
  cases hrh : rightsP h with
  | none =>
    have hO2 : O = none := by rw [← hO, hub, hud, hrh]; split <;> rfl
    rw [hrh] at c4
    simp only [optI] at c4
    rcases h0 with rfl | rfl
    all_goals
      simp -implicitDefEqProofs
      refine callK c1 ?_
      simp -implicitDefEqProofs [hf]
      refine callK c2 ?_
      simp -implicitDefEqProofs [unescP_some hub]
      refine callK c3 ?_
      simp -implicitDefEqProofs [unescP_some hud]
      refine callK c4 ?_
      simp -implicitDefEqProofs [hO2, readT, aruleD, strs, ints]
  | some z =>
  rw [hub, hud, hrh] at hO
  rw [hrh] at c4
  simp only [optI] at c4
  by_cases hb0 : b = []
  · rw [if_neg (fun q => q.1 hb0)] at hO
    subst hO
    rcases h0 with rfl | rfl
    all_goals
      simp -implicitDefEqProofs
      refine callK c1 ?_
      simp -implicitDefEqProofs [hf]
      refine callK c2 ?_
      simp -implicitDefEqProofs [unescP_some hub]
      refine callK c3 ?_
      simp -implicitDefEqProofs [unescP_some hud]
      refine callK c4 ?_
      simp -implicitDefEqProofs [hb0, readT, aruleD, strs, ints]
  by_cases hd0 : d = []
  · rw [if_neg (fun q => q.2 hd0)] at hO
    subst hO
    rcases h0 with rfl | rfl
    all_goals
      simp -implicitDefEqProofs
      refine callK c1 ?_
      simp -implicitDefEqProofs [hf]
      refine callK c2 ?_
      simp -implicitDefEqProofs [unescP_some hub]
      refine callK c3 ?_
      simp -implicitDefEqProofs [unescP_some hud]
      refine callK c4 ?_
      simp -implicitDefEqProofs [hb0, hd0, readT, aruleD, strs, ints]
  rw [if_pos ⟨hb0, hd0⟩] at hO
  subst hO
  by_cases hd45 : d = [45]
  · by_cases hf45 : f = [45]
    · rcases h0 with rfl | rfl
      all_goals
        simp -implicitDefEqProofs
        refine callK c1 ?_
        simp -implicitDefEqProofs [hf]
        refine callK c2 ?_
        simp -implicitDefEqProofs [unescP_some hub]
        refine callK c3 ?_
        simp -implicitDefEqProofs [unescP_some hud]
        refine callK c4 ?_
        simp -implicitDefEqProofs [hb0, hd45, hf45, readT, aruleD, strs, ints]
    · rcases h0 with rfl | rfl
      all_goals
        simp -implicitDefEqProofs
        refine callK c1 ?_
        simp -implicitDefEqProofs [hf]
        refine callK c2 ?_
        simp -implicitDefEqProofs [unescP_some hub]
        refine callK c3 ?_
        simp -implicitDefEqProofs [unescP_some hud]
        refine callK c4 ?_
        simp -implicitDefEqProofs [hb0, hd45, hf45, readT, aruleD, strs, ints]
        refine callK c5 ?_
        simp -implicitDefEqProofs [hf45]
  · by_cases hf45 : f = [45]
    · rcases h0 with rfl | rfl
      all_goals
        simp -implicitDefEqProofs
        refine callK c1 ?_
        simp -implicitDefEqProofs [hf]
        refine callK c2 ?_
        simp -implicitDefEqProofs [unescP_some hub]
        refine callK c3 ?_
        simp -implicitDefEqProofs [unescP_some hud]
        refine callK c4 ?_
        simp -implicitDefEqProofs [hb0, hd0, hd45, hf45, readT, aruleD, strs, ints]
    · rcases h0 with rfl | rfl
      all_goals
        simp -implicitDefEqProofs
        refine callK c1 ?_
        simp -implicitDefEqProofs [hf]
        refine callK c2 ?_
        simp -implicitDefEqProofs [unescP_some hub]
        refine callK c3 ?_
        simp -implicitDefEqProofs [unescP_some hud]
        refine callK c4 ?_
        simp -implicitDefEqProofs [hb0, hd0, hd45, hf45, readT, aruleD, strs, ints]
        refine callK c5 ?_
        simp -implicitDefEqProofs [hd45, hf45]
end Go.Proofs.Tz

/- Access lists: the text of the reference. -/
set_option maxRecDepth 100000
set_option maxHeartbeats 4000000
set_option linter.unusedVariables false
set_option linter.unusedSimpArgs false
namespace Go.Proofs.Tz
open Go.Vw Go.RowKit Go.Proofs

def CutI (s : Str) (c : UInt8) (k : Nat) (τ : St) : Prop := τ 0 = .d (.str s) ∧ τ 1 = .d (.int .u8 c.toNat) ∧ τ 7 = .d (.int .i64 k) ∧ ∃ (f : Nat) (done : List Str), τ 6 = .d (.int .i64 f) ∧ τ 5 = .own false 9 (done.map .str) ∧ f ≤ k ∧ done.length ≤ k ∧
    (k ≤ List.length s → splitB c s = done ++ splitB c (s.drop f) ∧ c ∉ (s.drop f).take (k - f)) ∧ (List.length s < k → splitB c s = done)
theorem cut_at {s : Str} {c : UInt8} {f i : Nat} (h1 : f ≤ i) (h2 : i < s.length) (h3 : s[i] = c) (h4 : c ∉ (s.drop f).take (i - f)) : splitB c (s.drop f) = (s.drop f).take (i - f) :: splitB c (s.drop (i + 1)) := by
  have hix : ixB (s.drop f) c = ((i - f : Nat) : Int) := ixB_at (by simp; omega) (by simp; rw [← h3]; congr 1; omega) h4
  rw [splitB_at hix, List.drop_drop]
  congr 3; omega
theorem cut07_fn (s : Str) (c : UInt8) (hs : List.length s < 1000000) : Ctr Tryz.prog 31 [.d (.str s), .d (u8 c)] (.d (strs (splitB c s))) := by
  refine fn_of_vwp (fun _ => false) (by kernel_rfl) Tryz.func31 (by kernel_rfl) rfl rfl (Nat.le_of_ble_eq_true rfl) (by kernel_rfl) rfl rfl ?_
  simp -implicitDefEqProofs [u8]
  refine loopN (List.length s + 1) (CutI s c) ?_ ?_
  · exact ⟨by simp, by simp, by simp, 0, [], by simp, by simp, by simp, by simp, fun _ => ⟨by simp, by simp⟩, fun h => by omega⟩
  rintro k τ hk ⟨h0, h1, h7, f, done, h6, h5, hf, hdl, hA, hB⟩
  by_cases hle : k ≤ List.length s
  · have hle' : (k : Int) ≤ List.length s := by omega
    obtain ⟨hsp, hno⟩ := hA hle
    by_cases hlt : k < List.length s
    · have hne : ¬ (k : Int) = List.length s := by omega
      by_cases he : s[k] = c
      · have hcut := cut_at hf hlt he hno
        rw [hcut] at hsp
        generalize hp : (s.drop f).take (k - f) = p at *
        simp -implicitDefEqProofs [h0, h1, h7, h6, h5, hlt, hle, hle', hne, he, hp, hf]
        repeat refine And.intro (by omega) ?_
        refine again (by omega) ⟨by simp [h0], by simp [h1], by simp, k + 1, done ++ [p], by simp, by simp, by omega, by simp; omega, fun _ => ⟨by simp [hsp], by simp⟩, fun h => by omega⟩
      · have he' : ¬ ((s[k].toNat : Int) = c.toNat) := fun e => he (UInt8.toNat_inj.1 (by omega))
        simp -implicitDefEqProofs [h0, h1, h7, h6, h5, hlt, hle, hle', hne, he']
        repeat refine And.intro (by omega) ?_
        refine again (by omega) ⟨by simp [h0], by simp [h1], by simp, f, done, by simp [h6], by simp [h5], by omega, by omega, fun _ => ⟨hsp, ?_⟩, fun h => by omega⟩
        have hfl : k - f < (s.drop f).length := by simp; omega
        rw [show k + 1 - f = k - f + 1 by omega, take_s hfl, List.mem_append, List.mem_singleton]
        rintro (h | h)
        · exact hno h
        · apply he
          rw [h]
          simp only [List.getElem_drop]
          congr 1; omega
    · have hkl : k = List.length s := by omega
      subst hkl
      have hpe : (s.drop f).take (List.length s - f) = s.drop f := List.take_of_length_le (by simp)
      rw [hpe] at hno
      rw [splitB_none hno] at hsp
      simp -implicitDefEqProofs [h0, h1, h7, h6, h5, hpe, hf]
      repeat refine And.intro (by omega) ?_
      refine again (by omega) ⟨by simp [h0], by simp [h1], by simp, List.length s + 1, done ++ [s.drop f], by simp, by simp, by omega, by simp; omega, fun h => by omega, fun _ => hsp⟩
  · have hsp := hB (by omega)
    have hle' : ¬ (k : Int) ≤ List.length s := by omega
    simp -implicitDefEqProofs [h0, h1, h7, h6, h5, hle']
    simp [strs, hsp]

theorem lists07_fn (l m : List Str) (hl : l.length < 1000000) (hm : m.length < 1000000) : Ctr Tryz.prog 46 [.d (strs l), .d (strs m)] (.d (.bool (decide (l = m)))) := by
  refine fn_of_vwp (fun _ => false) (by kernel_rfl) Tryz.func46 (by kernel_rfl) rfl rfl (Nat.le_of_ble_eq_true rfl) (by kernel_rfl) rfl rfl ?_
  by_cases hlm : l.length = m.length
  · simp -implicitDefEqProofs [strs, hlm]
    refine loopN m.length (fun k τ => τ 0 = .d (strs l) ∧ τ 1 = .d (strs m) ∧ τ 5 = .d (.int .i64 k) ∧ l.take k = m.take k) (by simp [strs, hlm]) ?_
    rintro k τ hk ⟨h0, h1, h5, ht⟩
    by_cases hlt : k < m.length
    · have hlt' : k < l.length := by omega
      by_cases he : l[k] = m[k]
      · simp -implicitDefEqProofs [h0, h1, h5, strs, hlm, hlt, hlt', he]
        refine ⟨by omega, again hlt ⟨by simp [h0, strs], by simp [h1, strs], by simp, ?_⟩⟩
        rw [take_s hlt, take_s hlt', ht, he]
      · simp -implicitDefEqProofs [h0, h1, h5, strs, hlm, hlt, hlt', he]
        rintro rfl
        exact he rfl
    · rw [List.take_of_length_le (by omega), List.take_of_length_le (by omega)] at ht
      simp -implicitDefEqProofs [h0, h1, h5, strs, hlm, hlt, ht]
      try omega
  · have hlm' : ¬ (l.length : Int) = m.length := by omega
    simp -implicitDefEqProofs [strs, hlm']
    rintro rfl
    exact hlm rfl

def joinR (l : List Str) : Str := if l = [] then [45] else joinB 44 l
theorem joinB_take {c : UInt8} {l : List Str} {k : Nat} (h : k < l.length) (h0 : 0 < k) : joinB c (l.take (k + 1)) = joinB c (l.take k) ++ c :: l[k] := by
  rw [take_s h, joinB_snoc, if_neg]
  intro e
  have := congrArg List.length e
  simp only [List.length_take, List.length_nil] at this
  omega
theorem joined_fn (l : List Str) (hl : l.length < 1000000) (hn : ∀ p ∈ l, List.length p < 1000000) : Ctr Tryz.prog 71 [.d (strs l)] (.d (.str (joinR l))) := by
  refine fn_of_vwp (fun _ => false) (by kernel_rfl) Tryz.func71 (by kernel_rfl) rfl rfl (Nat.le_of_ble_eq_true rfl) (by kernel_rfl) rfl rfl ?_
  cases l with
  | nil => simp -implicitDefEqProofs [strs, joinR]
  | cons p l =>
    have hR : joinR (p :: l) = joinB 44 (p :: l) := by rw [joinR, if_neg (by simp)]
    rw [hR]
    have hb : ∀ k, k ≤ (p :: l).length → (joinB 44 ((p :: l).take k)).length ≤ k * 1000000 := fun k hk => by
      have := joinB_len (c := 44) (n := 999999) (l := (p :: l).take k) (fun q hq => by have := hn q (List.mem_of_mem_take hq); omega)
      rw [List.length_take, Nat.min_eq_left hk] at this
      exact this
    have hll : (p :: l).length = l.length + 1 := rfl
    have hne : ¬ ((l.length : Int) + 1 = 0) := by omega
    simp -implicitDefEqProofs [strs, hne]
    generalize hm : p :: l = m at *
    have hmm : D.str p :: l.map D.str = m.map D.str := by rw [← hm]; rfl
    rw [hmm]
    refine loopN l.length (fun k τ => τ 0 = .d (strs m) ∧ τ 4 = .d (.int .i64 ((k : Int) + 1)) ∧ τ 3 = .d (.str (joinB 44 (m.take (k + 1))))) ⟨by simp [strs], by simp, by simp [← hm, joinB]⟩ ?_
    rintro k τ hk ⟨h0, h4, h3⟩
    by_cases hlt : k < l.length
    · have hkm : k + 1 < m.length := by omega
      have hlt' : (k : Int) + 1 < m.length := by omega
      have hj := joinB_take (c := 44) hkm (by omega)
      have hb2 := hb (k + 1) (by omega)
      have hpl := hn m[k + 1] (List.getElem_mem hkm)
      have i1 : (0 : Int) ≤ (k : Int) + 1 := by omega
      have j1 : ((k : Int) + 1).toNat = k + 1 := by omega
      simp -implicitDefEqProofs [h0, h4, h3, strs, hkm, hlt', i1, j1]
      repeat refine And.intro (by omega) ?_
      exact again hlt ⟨by simp [h0, strs], by simp, by simp [hj]⟩
    · have hlt' : ¬ (k : Int) + 1 < m.length := by omega
      rw [List.take_of_length_le (by omega)] at h3
      simp -implicitDefEqProofs [h0, h4, h3, strs, hlt']

def wordsA : List Str := [[], w1R, w2R, w3R, w4R, w5R]
theorem wordsA_fn : Ctr Tryz.prog 70 [] (.d (strs wordsA)) := by
  refine fn_of_vwp (fun _ => false) (by kernel_rfl) Tryz.func70 (by kernel_rfl) rfl rfl (Nat.le_of_ble_eq_true rfl) (by kernel_rfl) rfl rfl ?_
  simp -implicitDefEqProofs [strs, wordsA]
  decide
theorem wordsA_at {x : Int} (h1 : 1 ≤ x) (h2 : x ≤ 5) : (wordsA.map D.str)[x.toNat]? = some (.str (rword x)) := by
  have : x = 1 ∨ x = 2 ∨ x = 3 ∨ x = 4 ∨ x = 5 := by omega
  rcases this with rfl | rfl | rfl | rfl | rfl <;> rfl

theorem escR_orD (s : Str) : (if s = [] then [45] else escS s) = orD (escS s) := by
  by_cases h : s = []
  · subst h; rfl
  · rw [if_neg h, orD_ne (escS_ne h)]
theorem joinR_orD {l : List Str} (h : ∀ a ∈ l, nameB a = true) : joinR l = orD (joinB 44 l) := by
  unfold joinR
  by_cases hl : l = []
  · subst hl; rfl
  · rw [if_neg hl, orD_ne]
    exact joinB_ne0 hl fun p hp => (nameB_no (h p hp)).2.2.2.1
theorem joinR_words {l : List Int} (h : l ≠ []) : joinR (l.map rword) = joinB 44 (l.map rword) := by
  unfold joinR; rw [if_neg (by simpa using h)]

theorem alineR_fn (r : ARule) (h : OkR r) (hf : FitAR r) : Ctr Tryz.prog 40 [.d (aruleD r)] (.d (.str (lineA r ++ [10]))) := by
  refine fn_of_vwp (fun _ => false) (by kernel_rfl) Tryz.func40 (by kernel_rfl) rfl rfl (Nat.le_of_ble_eq_true rfl) (by kernel_rfl) rfl rfl ?_
  have j1 := h.joins
  have j2 := rwords_len r.2.2.2.2
  have hri := h.rights
  obtain ⟨f1, f2, f3, f4, f5⟩ := hf
  obtain ⟨al, su, ta, at_, ri⟩ := r
  simp only at f1 f2 f3 f4 f5 j1 j2 hri
  have c1 := escapeR_fn su (by omega)
  have c2 := escapeR_fn ta (by omega)
  have c4 := joined_fn at_ f3 f4
  have c5 := joined_fn (ri.map rword) (by simp; omega) (fun p hp => by
    obtain ⟨x, _, rfl⟩ := List.mem_map.1 hp
    have := rword_len x; omega)
  rw [joinR_orD h.attrs] at c4
  rw [joinR_words h.some] at c5
  have e1 := escS_len su
  have e2 := escS_len ta
  have e3 := orD_len (joinB 44 at_)
  have e4 := orD_len (escS ta)
  have hO := escR_orD ta
  have hA : lineA (al, su, ta, at_, ri) ++ [10] = kindW al ++ 32 :: (escS su ++ 32 :: (onW ++ 32 :: (orD (escS ta) ++ 32 :: (attrsW ++ 32 :: (orD (joinB 44 at_) ++ 32 :: (rightsW ++ 32 :: (joinB 44 (ri.map rword) ++ [10]))))))) := by simp [lineA, lineW, joinB]
  rw [hA]
  have c6 := wordsA_fn
  simp only [strs] at c4 c5 c6
  generalize escS su = ES at *
  generalize escS ta = ET at *
  generalize orD ET = OT at *
  generalize orD (joinB 44 at_) = OA at *
  generalize joinB 44 (ri.map rword) = JR at *
  simp only [List.map_map] at c5
  by_cases ht : ta = []
  · rw [if_pos ht] at hO
    cases al
    · simp -implicitDefEqProofs [aruleD, strs, ints, ht]
      refine loopN ri.length (fun k τ => τ 1 = .box (.agg [.bool false, .str su, .str [], .sl (at_.map .str), .sl (ri.map (.int .i64))]) ∧ τ 3 = .d (.str (denyW ++ [32])) ∧ τ 4 = .d (.str [45]) ∧ τ 5 = .own false 9 ((ri.map (D.str ∘ rword)).take k) ∧ τ 6 = .d (.int .i64 k)) ⟨by simp, by simp, by simp, by simp, by simp⟩ ?_
      rintro k τ hk ⟨h1, h3, h4, h5, h6⟩
      by_cases hlt : k < ri.length
      · have hlt' : (k : Int) < ri.length := by omega
        have hts : List.take (k + 1) (ri.map (D.str ∘ rword)) = List.take k (ri.map (D.str ∘ rword)) ++ [D.str (rword ri[k])] := by
          rw [take_s (by simpa using hlt)]; simp
        have hx := hri _ (List.getElem_mem hlt)
        have hw := wordsA_at (x := ri[k]) (by omega) (by omega)
        have hx0 : 0 ≤ ri[k] := by omega
        simp -implicitDefEqProofs [h1, h3, h4, h5, h6, hlt, hlt']
        refine callP c6 ?_
        simp -implicitDefEqProofs [h1, h3, h4, h5, h6, hlt, hlt', hx0, hw]
        repeat refine And.intro (by first | omega | (simp; omega)) ?_
        exact again hlt ⟨by simp [h1], by simp [h3], by simp [h4], by simp [hts], by simp⟩
      · have hlt' : ¬ (k : Int) < ri.length := by omega
        rw [List.take_of_length_le (by simp; omega)] at h5
        simp -implicitDefEqProofs [h1, h3, h4, h5, h6, hlt']
        refine callP c1 ?_
        simp -implicitDefEqProofs [h1, h3, h4, h5, h6]
        repeat refine And.intro (by first | omega | (simp; omega)) ?_
        refine callP c4 ?_
        simp -implicitDefEqProofs [h1, h3, h4, h5, h6]
        repeat refine And.intro (by first | omega | (simp; omega)) ?_
        refine callP c5 ?_
        simp -implicitDefEqProofs [h1, h3, h4, h5, h6]
        repeat refine And.intro (by first | omega | (simp; omega)) ?_
        simp [← hO, kindW]
    · simp -implicitDefEqProofs [aruleD, strs, ints, ht]
      refine loopN ri.length (fun k τ => τ 1 = .box (.agg [.bool true, .str su, .str [], .sl (at_.map .str), .sl (ri.map (.int .i64))]) ∧ τ 3 = .d (.str (allowW ++ [32])) ∧ τ 4 = .d (.str [45]) ∧ τ 5 = .own false 9 ((ri.map (D.str ∘ rword)).take k) ∧ τ 6 = .d (.int .i64 k)) ⟨by simp, by simp, by simp, by simp, by simp⟩ ?_
      rintro k τ hk ⟨h1, h3, h4, h5, h6⟩
      by_cases hlt : k < ri.length
      · have hlt' : (k : Int) < ri.length := by omega
        have hts : List.take (k + 1) (ri.map (D.str ∘ rword)) = List.take k (ri.map (D.str ∘ rword)) ++ [D.str (rword ri[k])] := by
          rw [take_s (by simpa using hlt)]; simp
        have hx := hri _ (List.getElem_mem hlt)
        have hw := wordsA_at (x := ri[k]) (by omega) (by omega)
        have hx0 : 0 ≤ ri[k] := by omega
        simp -implicitDefEqProofs [h1, h3, h4, h5, h6, hlt, hlt']
        refine callP c6 ?_
        simp -implicitDefEqProofs [h1, h3, h4, h5, h6, hlt, hlt', hx0, hw]
        repeat refine And.intro (by first | omega | (simp; omega)) ?_
        exact again hlt ⟨by simp [h1], by simp [h3], by simp [h4], by simp [hts], by simp⟩
      · have hlt' : ¬ (k : Int) < ri.length := by omega
        rw [List.take_of_length_le (by simp; omega)] at h5
        simp -implicitDefEqProofs [h1, h3, h4, h5, h6, hlt']
        refine callP c1 ?_
        simp -implicitDefEqProofs [h1, h3, h4, h5, h6]
        repeat refine And.intro (by first | omega | (simp; omega)) ?_
        refine callP c4 ?_
        simp -implicitDefEqProofs [h1, h3, h4, h5, h6]
        repeat refine And.intro (by first | omega | (simp; omega)) ?_
        refine callP c5 ?_
        simp -implicitDefEqProofs [h1, h3, h4, h5, h6]
        repeat refine And.intro (by first | omega | (simp; omega)) ?_
        simp [← hO, kindW]
  · rw [if_neg ht] at hO
    cases al
    · simp -implicitDefEqProofs [aruleD, strs, ints, ht]
      refine callK c2 ?_
      simp -implicitDefEqProofs [ht]
      refine loopN ri.length (fun k τ => τ 1 = .box (.agg [.bool false, .str su, .str ta, .sl (at_.map .str), .sl (ri.map (.int .i64))]) ∧ τ 3 = .d (.str (denyW ++ [32])) ∧ τ 4 = .d (.str ET) ∧ τ 5 = .own false 9 ((ri.map (D.str ∘ rword)).take k) ∧ τ 6 = .d (.int .i64 k)) ⟨by simp, by simp, by simp, by simp, by simp⟩ ?_
      rintro k τ hk ⟨h1, h3, h4, h5, h6⟩
      by_cases hlt : k < ri.length
      · have hlt' : (k : Int) < ri.length := by omega
        have hts : List.take (k + 1) (ri.map (D.str ∘ rword)) = List.take k (ri.map (D.str ∘ rword)) ++ [D.str (rword ri[k])] := by
          rw [take_s (by simpa using hlt)]; simp
        have hx := hri _ (List.getElem_mem hlt)
        have hw := wordsA_at (x := ri[k]) (by omega) (by omega)
        have hx0 : 0 ≤ ri[k] := by omega
        simp -implicitDefEqProofs [h1, h3, h4, h5, h6, hlt, hlt']
        refine callP c6 ?_
        simp -implicitDefEqProofs [h1, h3, h4, h5, h6, hlt, hlt', hx0, hw]
        repeat refine And.intro (by first | omega | (simp; omega)) ?_
        exact again hlt ⟨by simp [h1], by simp [h3], by simp [h4], by simp [hts], by simp⟩
      · have hlt' : ¬ (k : Int) < ri.length := by omega
        rw [List.take_of_length_le (by simp; omega)] at h5
        simp -implicitDefEqProofs [h1, h3, h4, h5, h6, hlt']
        refine callP c1 ?_
        simp -implicitDefEqProofs [h1, h3, h4, h5, h6]
        repeat refine And.intro (by first | omega | (simp; omega)) ?_
        refine callP c4 ?_
        simp -implicitDefEqProofs [h1, h3, h4, h5, h6]
        repeat refine And.intro (by first | omega | (simp; omega)) ?_
        refine callP c5 ?_
        simp -implicitDefEqProofs [h1, h3, h4, h5, h6]
        repeat refine And.intro (by first | omega | (simp; omega)) ?_
        simp [← hO, kindW]
    · simp -implicitDefEqProofs [aruleD, strs, ints, ht]
      refine callK c2 ?_
      simp -implicitDefEqProofs [ht]
      refine loopN ri.length (fun k τ => τ 1 = .box (.agg [.bool true, .str su, .str ta, .sl (at_.map .str), .sl (ri.map (.int .i64))]) ∧ τ 3 = .d (.str (allowW ++ [32])) ∧ τ 4 = .d (.str ET) ∧ τ 5 = .own false 9 ((ri.map (D.str ∘ rword)).take k) ∧ τ 6 = .d (.int .i64 k)) ⟨by simp, by simp, by simp, by simp, by simp⟩ ?_
      rintro k τ hk ⟨h1, h3, h4, h5, h6⟩
      by_cases hlt : k < ri.length
      · have hlt' : (k : Int) < ri.length := by omega
        have hts : List.take (k + 1) (ri.map (D.str ∘ rword)) = List.take k (ri.map (D.str ∘ rword)) ++ [D.str (rword ri[k])] := by
          rw [take_s (by simpa using hlt)]; simp
        have hx := hri _ (List.getElem_mem hlt)
        have hw := wordsA_at (x := ri[k]) (by omega) (by omega)
        have hx0 : 0 ≤ ri[k] := by omega
        simp -implicitDefEqProofs [h1, h3, h4, h5, h6, hlt, hlt']
        refine callP c6 ?_
        simp -implicitDefEqProofs [h1, h3, h4, h5, h6, hlt, hlt', hx0, hw]
        repeat refine And.intro (by first | omega | (simp; omega)) ?_
        exact again hlt ⟨by simp [h1], by simp [h3], by simp [h4], by simp [hts], by simp⟩
      · have hlt' : ¬ (k : Int) < ri.length := by omega
        rw [List.take_of_length_le (by simp; omega)] at h5
        simp -implicitDefEqProofs [h1, h3, h4, h5, h6, hlt']
        refine callP c1 ?_
        simp -implicitDefEqProofs [h1, h3, h4, h5, h6]
        repeat refine And.intro (by first | omega | (simp; omega)) ?_
        refine callP c4 ?_
        simp -implicitDefEqProofs [h1, h3, h4, h5, h6]
        repeat refine And.intro (by first | omega | (simp; omega)) ?_
        refine callP c5 ?_
        simp -implicitDefEqProofs [h1, h3, h4, h5, h6]
        repeat refine And.intro (by first | omega | (simp; omega)) ?_
        simp [← hO, kindW]

theorem atextR_fn (l : List ARule) (hl : FitARs l) : Ctr Tryz.prog 12 [.d (arules l)] (.tup [.d (.str (textA l).1), .d (.int .i64 (textA l).2)]) := by
  refine fn_of_vwpN (rv := .tmp 2) (rs := [.tmp 3]) (r := .d (.str (textA l).1)) (ys := [.d (.int .i64 (textA l).2)]) (fun i => false) (by kernel_rfl) Tryz.func12 (by kernel_rfl) rfl rfl (by simp) (Nat.le_of_ble_eq_true rfl) (by kernel_rfl) rfl rfl ?_
  have c0 := checkARR_fn l hl
  simp only [arules] at c0 ⊢
  by_cases hc : checkAR l = 0
  case neg =>
    simp -implicitDefEqProofs
    refine callK c0 ?_
    simp -implicitDefEqProofs [hc, textA]
  obtain ⟨h64, hok⟩ := OkR.all hc
  simp -implicitDefEqProofs
  refine callK c0 ?_
  simp -implicitDefEqProofs [hc]
  refine loopN l.length (fun k τ => τ 0 = .d (.sl (l.map aruleD)) ∧ τ 6 = .d (.int .i64 k) ∧ τ 5 = .d (.str (pLines lineA (l.take k)))) ⟨by simp, by simp, by simp [pLines]⟩ ?_
  rintro k τ hk ⟨h0, h6, h5⟩
  have hbl := pLinesA_len hl hok k hk
  by_cases hlt : k < l.length
  · have hlt' : (k : Int) < l.length := by omega
    have hs := pLines_take (w := lineA) hlt
    have hlen := lineA_len (hok _ (List.getElem_mem hlt)) (hl.2 _ (List.getElem_mem hlt))
    have c1 := alineR_fn l[k] (hok _ (List.getElem_mem hlt)) (hl.2 _ (List.getElem_mem hlt))
    generalize hr : l[k] = r at *
    obtain ⟨al, su, ta, at_, ri⟩ := r
    generalize lineA (al, su, ta, at_, ri) = W at *
    simp only [aruleD, strs, ints] at c1
    simp -implicitDefEqProofs [h0, h6, h5, hlt, hlt', aruleD, strs, ints, hr]
    refine callK c1 ?_
    simp -implicitDefEqProofs [h0, h6, h5]
    repeat refine And.intro (by first | omega | (simp; omega)) ?_
    exact again hlt ⟨by simp [h0], by simp, by simp [hs]⟩
  · rw [List.take_of_length_le (by omega)] at h5
    have hlt' : ¬ (k : Int) < l.length := by omega
    by_cases h4 : 4096 < (pLines lineA l).length
    · have h4' : (4096 : Int) < (pLines lineA l).length := by omega
      simp -implicitDefEqProofs [h0, h6, h5, hlt', h4', textA, hc, h4]
    · have h4' : ¬ (4096 : Int) < (pLines lineA l).length := by omega
      simp -implicitDefEqProofs [h0, h6, h5, hlt', h4', textA, hc, h4]
end Go.Proofs.Tz

/- Access lists: what a text says: the reference; Parse, in both. -/
set_option maxRecDepth 100000
set_option maxHeartbeats 4000000
set_option linter.unusedVariables false
set_option linter.unusedSimpArgs false
namespace Go.Proofs.Tz
open Go.Vw Go.RowKit Go.Proofs

theorem hit_none {w : Str} (h : hitW w 5 = []) : wordV w = none := by
  rw [hitW_end] at h
  cases hv : wordV w with
  | none => rfl
  | some y => rw [hv] at h; cases h

theorem rightsR_fn (s : Str) (hs : List.length s < 900000) : Ctr Tryz.prog 77 [.d (.str s)] (.tup [.d (ints (optI (rightsL (splitB 44 s))).1), .d (.bool (optI (rightsL (splitB 44 s))).2)]) := by
  refine fn_of_vwpN (rv := .tmp 2) (rs := [.tmp 3]) (r := .d (ints (optI (rightsL (splitB 44 s))).1)) (ys := [.d (.bool (optI (rightsL (splitB 44 s))).2)]) (fun i => false) (by kernel_rfl) Tryz.func77 (by kernel_rfl) rfl rfl (by simp) (Nat.le_of_ble_eq_true rfl) (by kernel_rfl) rfl rfl ?_
  have c1 := cut07_fn s 44 (by omega)
  have hlen := splitB_len 44 s
  have hcl : s.count 44 ≤ s.length := List.count_le_length
  have c6 := wordsA_fn
  generalize splitB 44 s = ws at *
  obtain ⟨R, hR⟩ : ∃ R, optI (rightsL ws) = R := ⟨_, rfl⟩
  rw [hR]
  simp only [strs] at c1 c6
  simp -implicitDefEqProofs
  refine callK c1 ?_
  simp -implicitDefEqProofs
  refine loopN ws.length (fun k τ => τ 4 = .d (.sl (ws.map .str)) ∧ τ 6 = .d (.int .i64 k) ∧ ∃ out : List Int, out.length = k ∧ τ 5 = .own false 53 (out.map (.int .i64)) ∧ optI ((rightsL (ws.drop k)).map (out ++ ·)) = R) ?_ ?_
  · exact ⟨by simp, by simp, [], rfl, by simp, by simpa using hR⟩
  rintro k τ hk ⟨h4, h6, out, ho, h5, hI⟩
  by_cases hlt : k < ws.length
  · have hlt' : (k : Int) < ws.length := by omega
    rw [rightsL_drop hlt] at hI
    have hget : (ws.map D.str)[k]? = some (.str ws[k]) := by simp [hlt]
    generalize hw : ws[k] = w at *
    simp -implicitDefEqProofs [h4, h6, h5, hlt, hlt', hw]
    refine loopN 5 (fun j τ => τ 4 = .d (.sl (ws.map .str)) ∧ τ 6 = .d (.int .i64 k) ∧ τ 5 = .own false 53 (out.map (.int .i64)) ∧ τ 7 = .d (.int .i64 ((j : Int) + 1)) ∧ hitW w j = []) ⟨by simp [h4], by simp [h6], by simp [h5], by simp, hitW_zero w⟩ ?_
    clear h4 h6 h5 τ
    rintro j τ hj ⟨h4, h6, h5, h7, hh⟩
    by_cases hjl : j < 5
    · have hjl' : (j : Int) + 1 ≤ 5 := by omega
      have hgt : ¬ (5 : Int) < (j : Int) + 1 := by omega
      have hw2 := wordsA_at (x := (j : Int) + 1) (by omega) (by omega)
      have hx0 : (0 : Int) ≤ (j : Int) + 1 := by omega
      have hjt : ((j : Int) + 1).toNat = j + 1 := by omega
      rw [hjt] at hw2
      by_cases hq : rword ((j : Int) + 1) = w
      · have hv : wordV w = some ((j : Int) + 1) := by rw [← hq, wordV_rword (by omega)]
        rw [hv] at hI
        simp -implicitDefEqProofs [h4, h6, h5, h7, hjl', hlt]
        refine callP c6 ?_
        simp -implicitDefEqProofs [h4, h6, h5, h7, hjl', hlt, hx0, hjt, hw2, hw, hq, hgt, hget]
        repeat refine And.intro (by omega) ?_
        refine again hlt ⟨by simp [h4], by simp, out ++ [(j : Int) + 1], by simp [ho], by simp, ?_⟩
        rw [← hI]
        cases rightsL (ws.drop (k + 1)) <;> simp [optI]
      · have e1 := hitW_no hjl hq
        simp -implicitDefEqProofs [h4, h6, h5, h7, hjl', hlt]
        refine callP c6 ?_
        simp -implicitDefEqProofs [h4, h6, h5, h7, hjl', hlt, hx0, hjt, hw2, hw, hq, hget]
        repeat refine And.intro (by omega) ?_
        exact again hjl ⟨by simp [h4], by simp [h6], by simp [h5], by simp, by rw [e1]; exact hh⟩
    · have hj5 : j = 5 := by omega
      subst hj5
      rw [hit_none hh] at hI
      simp only [Option.map_none, optI] at hI
      subst hI
      simp -implicitDefEqProofs [h4, h6, h5, h7, ints]
  · have hlt' : ¬ (k : Int) < ws.length := by omega
    rw [List.drop_eq_nil_of_le (by omega), rightsL] at hI
    simp only [Option.map_some, List.append_nil, optI] at hI
    subst hI
    simp -implicitDefEqProofs [h4, h6, h5, hlt', ints]

/-- The rule of words, as the reference reads it. -/
def readRT : List Str → ARule × Bool
  | [a, b, c, d, e, f, g, h] => if (a = allowW ∨ a = denyW) ∧ c = onW ∧ e = attrsW ∧ g = rightsW ∧ ¬ (([] : Str) ∈ [a, b, c, d, e, f, g, h]) then
      ((decide (a = allowW), (unescP b).1, if d = [45] then [] else (unescP d).1, if f = [45] then [] else splitB 44 f, (optI (rightsL (splitB 44 h))).1),
        decide ((unescP b).2 = 0) && (decide ((unescP d).2 = 0) && (decide (h = [45]) || (optI (rightsL (splitB 44 h))).2))) else ((false, [], [], [], []), false)
  | _ => ((false, [], [], [], []), false)
theorem readRT_len {l : List Str} (h : l.length ≠ 8) : readRT l = ((false, [], [], [], []), false) := by
  match l with
  | [] => rfl
  | [_] => rfl
  | [_, _] => rfl
  | [_, _, _] => rfl
  | [_, _, _, _] => rfl
  | [_, _, _, _, _] => rfl
  | [_, _, _, _, _, _] => rfl
  | [_, _, _, _, _, _, _] => rfl
  | [_, _, _, _, _, _, _, _] => exact absurd rfl h
  | _ :: _ :: _ :: _ :: _ :: _ :: _ :: _ :: _ :: _ => rfl
theorem rights45 : optI (rightsL (splitB 44 [45])) = ([], false) := by decide
theorem rights0 : rightsP [] = none := by decide
theorem readRT_eq (l : List Str) : (match ruleOf l with
    | some r => readRT l = (r, true)
    | none => (readRT l).2 = false) := by
  by_cases h8 : l.length = 8
  case neg => rw [ruleOf_len h8, readRT_len h8]
  obtain ⟨a, b, c, d, e, f, g, h, rfl⟩ := len8 h8
  by_cases hc : (a = allowW ∨ a = denyW) ∧ c = onW ∧ e = attrsW ∧ g = rightsW ∧ b ≠ [] ∧ d ≠ [] ∧ f ≠ []
  case neg =>
    rw [ruleOf_no hc]
    simp only [readRT]
    rw [if_neg]
    rintro ⟨h1, h2, h3, h4, h5⟩
    simp only [List.mem_cons, not_or] at h5
    exact hc ⟨h1, h2, h3, h4, fun q => h5.2.1 q.symm, fun q => h5.2.2.2.1 q.symm, fun q => h5.2.2.2.2.2.1 q.symm⟩
  obtain ⟨h1, h2, h3, h4, hb, hd, hf⟩ := hc
  by_cases hh : h = []
  · subst hh
    have e1 : ruleOf [a, b, c, d, e, f, g, []] = none := by
      simp only [ruleOf]
      rw [if_pos ⟨h1, h2, h3, h4, hb, hd, hf⟩, rights0]
      cases unesc b <;> cases unesc d <;> rfl
    have e2 : readRT [a, b, c, d, e, f, g, []] = ((false, [], [], [], []), false) := by
      simp only [readRT]
      rw [if_neg (fun q => q.2.2.2.2 (by simp))]
    rw [e1, e2]
  simp only [ruleOf, readRT]
  have hif0 : (a = allowW ∨ a = denyW) ∧ c = onW ∧ e = attrsW ∧ g = rightsW ∧ b ≠ [] ∧ d ≠ [] ∧ f ≠ [] := ⟨h1, h2, h3, h4, hb, hd, hf⟩
  rw [if_pos hif0]
  have hmem : ¬ (([] : Str) ∈ [a, b, c, d, e, f, g, h]) := by
    simp only [List.mem_cons, List.not_mem_nil, or_false, not_or]
    refine ⟨fun q => ?_, fun q => hb q.symm, fun q => ?_, fun q => hd q.symm, fun q => ?_, fun q => hf q.symm, fun q => ?_, fun q => hh q.symm⟩
    · rw [← q] at h1; rcases h1 with h1 | h1 <;> cases h1
    · rw [← q] at h2; cases h2
    · rw [← q] at h3; cases h3
    · rw [← q] at h4; cases h4
  have hif : (a = allowW ∨ a = denyW) ∧ c = onW ∧ e = attrsW ∧ g = rightsW ∧ ¬ (([] : Str) ∈ [a, b, c, d, e, f, g, h]) := ⟨h1, h2, h3, h4, hmem⟩
  rw [if_pos hif]
  cases hub : unesc b with
  | none => simp [unescP_none hub]
  | some x =>
    cases hud : unesc d with
    | none => simp [unescP_some hub, unescP_none hud]
    | some y =>
      unfold rightsP
      by_cases h45 : h = [45]
      · subst h45
        simp [unescP_some hub, unescP_some hud, rights45]
      · rw [if_neg h45]
        cases hr : rightsL (splitB 44 h) with
        | none => simp [unescP_some hub, unescP_some hud, h45, optI]
        | some z => simp [unescP_some hub, unescP_some hud, optI]

end Go.Proofs.Tz

/- Access lists: Parse. -/
set_option maxRecDepth 100000
set_option maxHeartbeats 4000000
set_option linter.unusedVariables false
set_option linter.unusedSimpArgs false
namespace Go.Proofs.Tz
open Go.Vw Go.RowKit Go.Proofs

theorem readA_fit {s : Str} {r : ARule} (h : readA s = some r) (hs : List.length s ≤ 4096) : FitAR r := by
  unfold readA at h
  have hle := splitB_le 32 s
  generalize splitB 32 s = ws at *
  by_cases h8 : ws.length = 8
  case neg => rw [ruleOf_len h8] at h; cases h
  obtain ⟨a, b, c, d, e, f, g, k, rfl⟩ := len8 h8
  have lb := hle b (by simp)
  have ld := hle d (by simp)
  have lf := hle f (by simp)
  have lk := hle k (by simp)
  simp only [ruleOf] at h
  split at h
  · split at h
    · rename_i x y z e1 e2 e3
      simp only [Option.some.injEq] at h
      subst h
      have u1 := unesc_len _ _ _ (Nat.le_refl _) e1
      have u2 := unesc_len _ _ _ (Nat.le_refl _) e2
      have s1 := splitB_len 44 f
      have s2 : f.count 44 ≤ f.length := List.count_le_length
      have s3 := splitB_le 44 f
      refine ⟨by simp only; omega, ?_, ?_, ?_, ?_⟩
      · simp only; split
        · simp
        · omega
      · simp only; split
        · simp
        · omega
      · intro p hp
        simp only at hp
        split at hp
        · simp at hp
        · have := s3 p hp; omega
      · simp only
        unfold rightsP at e3
        split at e3
        · simp only [Option.some.injEq] at e3; subst e3; simp
        · have := rightsL_len e3
          have s4 := splitB_len 44 k
          have s5 : k.count 44 ≤ k.length := List.count_le_length
          omega
    · cases h
  · cases h
theorem FitARs.snoc {out : List ARule} {r : ARule} (h : FitARs out) (ho : out.length ≤ 64) (hr : FitAR r) : FitARs (out ++ [r]) := by
  refine ⟨by simp; omega, fun x hx => ?_⟩
  rcases List.mem_append.1 hx with hx | hx
  · exact h.2 x hx
  · rw [List.mem_singleton.1 hx]; exact hr
theorem checkAR_le {l : List ARule} (h : checkAR l = 0) : l.length ≤ 64 := (checkAR_zero.1 h).1

def AparJ (s0 : Str) (m : Nat) (τ : St) : Prop := ∃ (rest : Str) (out : List ARule), m = List.length rest ∧ τ 6 = .d (.str rest) ∧ τ 5 = .own false 58 (out.map aruleD) ∧ τ 7 = .d (.int .i64 ((out.length : Int) + 1)) ∧ List.length rest ≤ 4096 ∧ out.length ≤ 64 ∧ FitARs out ∧ parseA s0 = pGo readA checkAR rest out
theorem aparse_fn (s : Str) (hs : List.length s < 1000000) : Ctr Tryz.prog 13 [.d (.str s)] (.tup [.d (arules (parseA s).1), .d (.int .i64 (parseA s).2.1), .d (.int .i64 (parseA s).2.2)]) := by
  refine fn_of_vwpN (rv := .tmp 2) (rs := [.tmp 3, .tmp 4]) (r := .d (arules (parseA s).1)) (ys := [.d (.int .i64 (parseA s).2.1), .d (.int .i64 (parseA s).2.2)]) (fun _ => false) (by kernel_rfl) Tryz.func13 (by kernel_rfl) rfl rfl (by simp) (Nat.le_of_ble_eq_true rfl) (by kernel_rfl) rfl rfl ?_
  by_cases h4 : 4096 < s.length
  · have h4' : (4096 : Int) < s.length := by omega
    simp -implicitDefEqProofs [h4', parseA, h4, arules]
  have h4' : ¬ (4096 : Int) < s.length := by omega
  simp -implicitDefEqProofs [h4']
  refine loopK (AparJ s) s.length ?_ ?_
  · exact ⟨s, [], rfl, by simp, by simp, by simp, by omega, by simp, ⟨by simp, by simp⟩, by rw [parseA, if_neg h4]⟩
  rintro m τ ⟨rest, out, rfl, h6, h5, h7, hr, ho, hfit, hpm⟩
  rw [hpm]
  by_cases hnil : rest = []
  · subst hnil
    rw [pGo_nil]
    simp -implicitDefEqProofs [h6, h5, h7, arules]
  by_cases hix : 0 ≤ ixB rest 10
  · have hlt := ixB_lt hix
    obtain ⟨k, hk⟩ := Int.eq_ofNat_of_zero_le hix
    rw [hk, Int.toNat_natCast] at hlt
    have hcut : cutB rest 10 = (rest.take k, rest.drop (k + 1), true) := by rw [cutB, if_pos hix, hk, Int.toNat_natCast]
    rw [pGo_at readA checkAR out hk] at hpm ⊢
    have c1 := cut_fn rest 10 (by omega)
    have hfl : List.length (rest.take k) ≤ 4096 := by simp; omega
    have hrl : List.length (rest.drop (k + 1)) = List.length rest - (k + 1) := by simp
    rw [hcut] at c1
    generalize rest.take k = first at *
    generalize rest.drop (k + 1) = tail at *
    have c2 := aread_fn first (by omega)
    cases hl : readA first with
    | none =>
      rw [hl] at c2
      simp only [readT, aruleD, strs, ints, List.map_nil] at c2
      simp -implicitDefEqProofs [h6, h5, h7, hnil]
      refine callK c1 ?_
      simp -implicitDefEqProofs [h6, h5, h7]
      refine callK c2 ?_
      simp -implicitDefEqProofs [h6, h5, h7, arules]
    | some r =>
      have hfr := readA_fit hl hfl
      have hfit2 := hfit.snoc ho hfr
      have c3 := checkAR_fn (out ++ [r]) hfit2
      rw [hl] at c2
      obtain ⟨al, su, ta, at_, ri⟩ := r
      simp only [readT, arules, aruleD, strs, ints, List.map_append, List.map_cons, List.map_nil] at c2 c3
      have eD : (fun r : ARule => D.agg [.bool r.1, .str r.2.1, .str r.2.2.1, .sl (r.2.2.2.1.map .str), .sl (r.2.2.2.2.map (.int .i64))]) = aruleD := rfl
      by_cases hc : checkAR (out ++ [(al, su, ta, at_, ri)]) = 0
      · simp -implicitDefEqProofs [h6, h5, h7, hnil]
        refine callK c1 ?_
        simp -implicitDefEqProofs [h6, h5, h7]
        refine callK c2 ?_
        simp -implicitDefEqProofs [h6, h5, h7]
        repeat refine And.intro (by omega) ?_
        refine callK c3 ?_
        simp -implicitDefEqProofs [h6, h5, h7, hc]
        repeat refine And.intro (by omega) ?_
        refine ⟨List.length tail, by omega, tail, out ++ [(al, su, ta, at_, ri)], rfl, by simp, by simp [aruleD, strs, ints], by simp, by omega, checkAR_le hc, hfit2, by rw [hpm, hl]; simp [hc]⟩
      · simp -implicitDefEqProofs [h6, h5, h7, hnil]
        refine callK c1 ?_
        simp -implicitDefEqProofs [h6, h5, h7]
        refine callK c2 ?_
        simp -implicitDefEqProofs [h6, h5, h7]
        repeat refine And.intro (by omega) ?_
        refine callK c3 ?_
        simp -implicitDefEqProofs [h6, h5, h7, hc, arules]
  · have hcut : cutB rest 10 = (rest, [], false) := by rw [cutB, if_neg hix]
    have c1 := cut_fn rest 10 (by omega)
    have c2 := aread_fn rest (by omega)
    rw [hcut] at c1
    rw [pGo_no readA checkAR out hnil (by omega)]
    generalize readT (readA rest) = T at *
    obtain ⟨⟨al, su, ta, at_, ri⟩, b⟩ := T
    simp only [aruleD, strs, ints] at c2
    simp -implicitDefEqProofs [h6, h5, h7, hnil]
    refine callK c1 ?_
    simp -implicitDefEqProofs [h6, h5, h7]
    refine callK c2 ?_
    simp -implicitDefEqProofs [h6, h5, h7, arules]

end Go.Proofs.Tz

namespace Go.Proofs.Tz
open Go.Vw Go.Lib
set_option linter.unusedSimpArgs false

theorem sorted_perm (l : List Att) : (sortedL l).Perm (((grp l).filter nonE).map normA) := by
  have hp : ((((grp l).filter nonE).map normA).mergeSort fun a b => decide (a.1 ≤ b.1)).Perm (((grp l).filter nonE).map normA) := List.mergeSort_perm _ _
  have hs := List.pairwise_mergeSort (le := fun a b : Att => decide (a.1 ≤ b.1)) (fun a b c h1 h2 => by
    simp only [decide_eq_true_eq] at *
    exact List.le_trans h1 h2) (fun a b => by
    simp only [Bool.or_eq_true, decide_eq_true_eq]
    exact List.le_total a.1 b.1) (((grp l).filter nonE).map normA)
  rw [← normal_eq l _ hp (fun i j hij hj => by
    have := List.pairwise_iff_getElem.1 hs i j (by omega) hj hij
    rw [bl_f]
    simpa using this)]
  exact hp

theorem compact_len (l : List Str) : (compact l).length ≤ l.length := by
  have key : ∀ m, (compactUpTo l.toArray m).length ≤ m := by
    intro m
    induction m with
    | zero => simp [compactUpTo]
    | succ m ih =>
      rw [compactUpTo_succ]
      split <;> simp <;> omega
  exact key l.length
theorem total_perm {a b : List Att} (h : a.Perm b) : total a = total b := (h.map _).sum_nat
theorem total_norm (l : List Att) : total ((l.filter nonE).map normA) ≤ total l := by
  induction l with
  | nil => simp [total]
  | cons a l ih =>
    have hc := compact_len (sortS a.2)
    have hs : (sortS a.2).length = a.2.length := by simp [sortS]
    rw [List.filter_cons]
    split
    · simp only [List.map_cons, total, List.sum_cons] at ih ⊢
      simp only [normA]
      omega
    · simp only [total, List.map_cons, List.sum_cons] at ih ⊢
      omega
theorem total_sorted (l : List Att) : total (sortedL l) ≤ total l := by
  rw [total_perm (sorted_perm l), ← total_grp l]
  exact total_norm _
theorem sorted_name {l : List Att} {x : Att} (h : x ∈ sortedL l) : ∃ a ∈ l, a.2 ≠ [] ∧ lower a.1 = x.1 := by
  obtain ⟨n, hn, rfl⟩ := List.mem_map.1 h
  have hN := (namesF_spec l [] (by simp [SS])).2 n
  rw [show l.foldl namesS [] = namesF l from rfl] at hN
  rcases hN.1 hn with h | h
  · simp at h
  · exact h
theorem sorted_val {l : List Att} {x : Att} (h : x ∈ sortedL l) {v : Str} (hv : v ∈ x.2) : ∃ a ∈ l, lower a.1 = x.1 ∧ v ∈ a.2 := by
  obtain ⟨n, hn, rfl⟩ := List.mem_map.1 h
  have hV := (valsF_spec n l [] (by simp [SS])).2 v
  rw [show l.foldl (valsS n) [] = valsF l n from rfl] at hV
  rcases hV.1 hv with h | h
  · simp at h
  · exact h
theorem total_mem' {l : List Att} {x : Att} (h : x ∈ l) : x.2.length ≤ total l := total_mem h
theorem sorted_fit2 {l : List Att} (hl : Fit2 l) : Fit2 (sortedL l) := by
  refine ⟨⟨Nat.lt_of_le_of_lt (sorted_len l) hl.1.1, fun x hx => ⟨?_, ?_⟩⟩, Nat.lt_of_le_of_lt (total_sorted l) hl.2⟩
  · obtain ⟨a, ha, _, e⟩ := sorted_name hx
    rw [← e, lower_len]
    exact (hl.1.2 a ha).1
  · have h1 := total_mem hx
    have h2 := total_sorted l
    have h3 := hl.2
    omega
theorem sorted_fitV {l : List Att} (hl : FitV l) : FitV (sortedL l) := fun x hx v hv => by
  obtain ⟨a, ha, _, h⟩ := sorted_val hx hv
  exact hl a ha v h
end Go.Proofs.Tz

/- The statements about layer 14: which arguments they speak of. -/
set_option maxRecDepth 100000
set_option maxHeartbeats 4000000
set_option linter.unusedVariables false
set_option linter.unusedSimpArgs false
namespace Go.Proofs.Tz
open Go.Vw Go.RowKit Go.Proofs

def str3B (s : Str) : Bool := decide (List.length s ≤ 300)
def shortsB (l : List Str) (n : Nat) : Bool := l.all str3B && decide (l.length ≤ n)
theorem ashort_fn (l : List Str) (n : Nat) (hl : l.length ≤ 140737488351232) : Ctr Tryz.prog 34 [.d (strs l), .d (.int .i64 n)] (.d (.bool (shortsB l n))) := by
  refine fn_of_vwp (fun _ => false) (by kernel_rfl) Tryz.func34 (by kernel_rfl) rfl rfl (Nat.le_of_ble_eq_true rfl) (by kernel_rfl) rfl rfl ?_
  obtain ⟨R, hR⟩ : ∃ R, shortsB l n = R := ⟨_, rfl⟩
  rw [hR]
  simp -implicitDefEqProofs [strs]
  refine loopN l.length (fun k τ => τ 0 = .d (strs l) ∧ τ 1 = .d (.int .i64 n) ∧ τ 5 = .d (.int .i64 k) ∧ AllB str3B (l.take k)) ⟨by simp [strs], by simp, by simp, by simp [AllB.nil]⟩ ?_
  rintro k τ hk ⟨h0, h1, h5, hall⟩
  by_cases hlt : k < l.length
  · have hlt' : (k : Int) < l.length := by omega
    have e1 := take_s hlt
    have hno := fun (h : str3B l[k] = false) => all_no (p := str3B) (h := hlt) rfl h
    generalize hr : l[k] = s at *
    by_cases a1 : (300 : Int) < List.length s
    · have : R = false := by rw [← hR, shortsB, hno (by simp [str3B]; omega)]; rfl
      simp -implicitDefEqProofs [h0, h1, h5, strs, hlt, hlt', hr, a1, this]
    · simp -implicitDefEqProofs [h0, h1, h5, strs, hlt, hlt', hr, a1]
      repeat refine And.intro (by omega) ?_
      exact again hlt ⟨by simp [h0, strs], by simp [h1], by simp, hall.snoc (by simp [str3B]; omega) e1⟩
  · have hlt' : ¬ (k : Int) < l.length := by omega
    rw [List.take_of_length_le (by omega)] at hall
    have : R = decide (l.length ≤ n) := by rw [← hR, shortsB, hall.all]; rfl
    simp -implicitDefEqProofs [h0, h1, h5, strs, hlt', this]
    try omega

def fewR (r : ARule) : Bool := str3B r.2.1 && (str3B r.2.2.1 && (shortsB r.2.2.2.1 40 && decide (r.2.2.2.2.length ≤ 10)))
def fewAB (l : List ARule) : Bool := l.all fewR && decide (l.length ≤ 70)
theorem few_fn (l : List ARule) (hl : l.length ≤ 140737488351232) (ha : ∀ r ∈ l, r.2.2.2.1.length ≤ 140737488351232) : Ctr Tryz.prog 9 [.d (arules l)] (.d (.bool (fewAB l))) := by
  refine fn_of_vwp (fun _ => false) (by kernel_rfl) Tryz.func9 (by kernel_rfl) rfl rfl (Nat.le_of_ble_eq_true rfl) (by kernel_rfl) rfl rfl ?_
  obtain ⟨R, hR⟩ : ∃ R, fewAB l = R := ⟨_, rfl⟩
  rw [hR]
  simp -implicitDefEqProofs [arules]
  refine loopN l.length (fun k τ => τ 0 = .d (arules l) ∧ τ 3 = .d (.int .i64 k) ∧ AllB fewR (l.take k)) ⟨by simp [arules], by simp, by simp [AllB.nil]⟩ ?_
  rintro k τ hk ⟨h0, h3, hall⟩
  by_cases hlt : k < l.length
  · have hlt' : (k : Int) < l.length := by omega
    have e1 := take_s hlt
    have hno := fun (h : fewR l[k] = false) => all_no (p := fewR) (h := hlt) rfl h
    have hb := ha _ (List.getElem_mem hlt)
    generalize hr : l[k] = r at *
    have c1 := ashort_fn r.2.2.2.1 40 hb
    obtain ⟨al, su, ta, at_, ri⟩ := r
    have hnR : fewR (al, su, ta, at_, ri) = false → R = false := fun h => by rw [← hR, fewAB, hno h]; rfl
    simp only [strs] at c1
    by_cases a1 : (300 : Int) < List.length su
    · have := hnR (by simp [fewR, str3B]; intros; omega)
      simp -implicitDefEqProofs [h0, h3, arules, aruleD, strs, ints, hlt, hlt', hr, a1, this]
    by_cases a2 : (300 : Int) < List.length ta
    · have := hnR (by simp [fewR, str3B]; intros; omega)
      simp -implicitDefEqProofs [h0, h3, arules, aruleD, strs, ints, hlt, hlt', hr, a1, a2, this]
    by_cases a3 : shortsB at_ 40 = true
    case neg =>
      have a3' : shortsB at_ 40 = false := by simpa using a3
      have := hnR (by simp [fewR, a3'])
      simp -implicitDefEqProofs [h0, h3, arules, aruleD, strs, ints, hlt, hlt', hr, a1, a2]
      refine callK c1 ?_
      simp -implicitDefEqProofs [a3', this]
    by_cases a4 : (10 : Int) < ri.length
    · have := hnR (by simp [fewR]; intros; omega)
      simp -implicitDefEqProofs [h0, h3, arules, aruleD, strs, ints, hlt, hlt', hr, a1, a2]
      refine callK c1 ?_
      simp -implicitDefEqProofs [h0, h3, arules, aruleD, strs, ints, hlt, hlt', hr, a3, a4, this]
    simp -implicitDefEqProofs [h0, h3, arules, aruleD, strs, ints, hlt, hlt', hr, a1, a2]
    refine callK c1 ?_
    simp -implicitDefEqProofs [h0, h3, arules, aruleD, strs, ints, hlt, hlt', hr, a3, a4]
    repeat refine And.intro (by omega) ?_
    refine again hlt ⟨by simp [h0, arules, aruleD, strs, ints], by simp, ?_⟩
    have hf : fewR (al, su, ta, at_, ri) = true := by
      simp only [fewR, str3B, a3, Bool.true_and, Bool.and_eq_true, decide_eq_true_eq]
      omega
    exact hall.snoc hf e1
  · have hlt' : ¬ (k : Int) < l.length := by omega
    rw [List.take_of_length_le (by omega)] at hall
    have : R = decide (l.length ≤ 70) := by rw [← hR, fewAB, hall.all]; rfl
    simp -implicitDefEqProofs [h0, h3, arules, hlt', this]
    try omega

structure FewR (r : ARule) : Prop where
  subj : List.length r.2.1 ≤ 300
  targ : List.length r.2.2.1 ≤ 300
  count : r.2.2.2.1.length ≤ 40
  each : ∀ a ∈ r.2.2.2.1, List.length a ≤ 300
  rights : r.2.2.2.2.length ≤ 10
theorem fewR_ok {r : ARule} (h : fewR r = true) : FewR r := by
  simp only [fewR, str3B, shortsB, Bool.and_eq_true, decide_eq_true_eq, List.all_eq_true] at h
  exact ⟨h.1, h.2.1, h.2.2.1.2, h.2.2.1.1, h.2.2.2⟩
theorem fewAB_ok {l : List ARule} (h : fewAB l = true) : l.length ≤ 70 ∧ ∀ r ∈ l, FewR r := by
  simp only [fewAB, Bool.and_eq_true, decide_eq_true_eq, List.all_eq_true] at h
  exact ⟨h.2, fun r hr => fewR_ok (h.1 r hr)⟩
theorem FewR.fit {r : ARule} (h : FewR r) : FitAR r := ⟨by have := h.subj; omega, by have := h.targ; omega, by have := h.count; omega, fun a ha => by have := h.each a ha; omega, by have := h.rights; omega⟩
theorem few_fit {l : List ARule} (h : fewAB l = true) : FitARs l := by
  obtain ⟨h1, h2⟩ := fewAB_ok h
  exact ⟨by omega, fun r hr => (h2 r hr).fit⟩

def knowsB (u : Subj) : Bool := str3B u.1 && shortsB u.2 20
theorem knows_fn (u : Subj) (hg : u.2.length ≤ 140737488351232) : Ctr Tryz.prog 18 [.d (subjD u)] (.d (.bool (knowsB u))) := by
  refine fn_of_vwp (fun _ => false) (by kernel_rfl) Tryz.func18 (by kernel_rfl) rfl rfl (Nat.le_of_ble_eq_true rfl) (by kernel_rfl) rfl rfl ?_
  obtain ⟨us, gs⟩ := u
  have c1 := ashort_fn gs 20 hg
  simp only [strs] at c1
  unfold knowsB str3B
  simp only
  by_cases a1 : List.length us ≤ 300
  · have a1' : (List.length us : Int) ≤ 300 := by omega
    simp -implicitDefEqProofs [subjD, strs, a1']
    refine callK c1 ?_
    simp -implicitDefEqProofs [a1]
  · have a1' : ¬ (List.length us : Int) ≤ 300 := by omega
    simp -implicitDefEqProofs [subjD, strs, a1', a1]
    try omega
theorem knows_fit {u : Subj} (h : knowsB u = true) : FitU u ∧ List.length u.1 ≤ 300 ∧ u.2.length ≤ 20 ∧ ∀ g ∈ u.2, List.length g ≤ 300 := by
  simp only [knowsB, shortsB, str3B, Bool.and_eq_true, decide_eq_true_eq, List.all_eq_true] at h
  exact ⟨⟨by omega, by omega, fun g hg => by have := h.2.1 g hg; omega⟩, h.1, h.2.2, h.2.1⟩

def lightT (a : Att) : Bool := str3B a.1 && shortsB a.2 20
def lightE (e : Ent) : Bool := e.2.all lightT && (decide (e.2.length ≤ 40) && str3B e.1)
theorem lightE_fn (e : Ent) (hl : e.2.length ≤ 140737488351232) (ha : ∀ a ∈ e.2, a.2.length ≤ 140737488351232) : Ctr Tryz.prog 19 [.d (entD e)] (.d (.bool (lightE e))) := by
  refine fn_of_vwp (fun _ => false) (by kernel_rfl) Tryz.func19 (by kernel_rfl) rfl rfl (Nat.le_of_ble_eq_true rfl) (by kernel_rfl) rfl rfl ?_
  obtain ⟨R, hR⟩ : ∃ R, lightE e = R := ⟨_, rfl⟩
  rw [hR]
  obtain ⟨n, l⟩ := e
  simp only at hl ha
  simp -implicitDefEqProofs [entD, atts]
  refine loopN l.length (fun k τ => τ 1 = .box (.agg [.str n, atts l]) ∧ τ 3 = .d (.int .i64 k) ∧ AllB lightT (l.take k)) ⟨by simp [atts], by simp, by simp [AllB.nil]⟩ ?_
  rintro k τ hk ⟨h1, h3, hall⟩
  by_cases hlt : k < l.length
  · have hlt' : (k : Int) < l.length := by omega
    have e1 := take_s hlt
    have hno := fun (h : lightT l[k] = false) => all_no (p := lightT) (h := hlt) rfl h
    have hb := ha _ (List.getElem_mem hlt)
    generalize hr : l[k] = r at *
    obtain ⟨an, av⟩ := r
    have c1 := ashort_fn av 20 hb
    have hnR : lightT (an, av) = false → R = false := fun h => by rw [← hR, lightE, hno h]; rfl
    simp only [strs] at c1
    by_cases a1 : (300 : Int) < List.length an
    · have := hnR (by simp [lightT, str3B]; intros; omega)
      simp -implicitDefEqProofs [h1, h3, atts, att, strs, hlt, hlt', hr, a1, this]
    by_cases a3 : shortsB av 20 = true
    case neg =>
      have a3' : shortsB av 20 = false := by simpa using a3
      have := hnR (by simp [lightT, a3'])
      simp -implicitDefEqProofs [h1, h3, atts, att, strs, hlt, hlt', hr, a1]
      refine callK c1 ?_
      simp -implicitDefEqProofs [a3', this]
    simp -implicitDefEqProofs [h1, h3, atts, att, strs, hlt, hlt', hr, a1]
    refine callK c1 ?_
    simp -implicitDefEqProofs [h1, h3, a3]
    repeat refine And.intro (by omega) ?_
    refine again hlt ⟨by simp [h1, atts, att, strs], by simp, ?_⟩
    have hf : lightT (an, av) = true := by
      simp only [lightT, str3B, a3, Bool.and_true, decide_eq_true_eq]
      omega
    exact hall.snoc hf e1
  · have hlt' : ¬ (k : Int) < l.length := by omega
    rw [List.take_of_length_le (by omega)] at hall
    have hRR : R = (decide (l.length ≤ 40) && str3B n) := by rw [← hR, lightE, hall.all]; rfl
    by_cases a1 : l.length ≤ 40
    · have a1' : (l.length : Int) ≤ 40 := by omega
      simp -implicitDefEqProofs [h1, h3, atts, hlt', hRR, a1, a1', str3B]
      try omega
    · have a1' : ¬ (l.length : Int) ≤ 40 := by omega
      simp -implicitDefEqProofs [h1, h3, atts, hlt', hRR, a1, a1']
      try omega
theorem sum_le {α : Type} (f : α → Nat) (n : Nat) : ∀ {l : List α}, (∀ x ∈ l, f x ≤ n) → (l.map f).sum ≤ l.length * n
  | [], _ => by simp
  | x :: l, h => by
    have ih := sum_le f n (l := l) (fun y hy => h y (by simp [hy]))
    have := h x (by simp)
    rw [List.map_cons, List.sum_cons, List.length_cons, Nat.succ_mul]
    omega
theorem lightE_fit {e : Ent} (h : lightE e = true) : List.length e.1 ≤ 300 ∧ e.2.length ≤ 40 ∧ Fit2 e.2 ∧ Fits (sortedL e.2) ∧ ∀ a ∈ e.2, List.length a.1 ≤ 300 := by
  simp only [lightE, lightT, shortsB, str3B, Bool.and_eq_true, decide_eq_true_eq, List.all_eq_true] at h
  obtain ⟨h1, h2, h3⟩ := h
  have ht : total e.2 ≤ e.2.length * 20 := sum_le _ 20 fun a ha => (h1 a ha).2.2
  have hf : Fit2 e.2 := ⟨⟨by omega, fun a ha => ⟨by have := (h1 a ha).1; omega, by have := (h1 a ha).2.2; omega⟩⟩, by omega⟩
  exact ⟨h3, h2, hf, (sorted_fit2 hf).1, fun a ha => (h1 a ha).1⟩

/-- A question. -/
def caseD (u : Subj) (n a : Str) (r : Int) : D := .agg [subjD u, .str n, .str a, .int .i64 r]
def MentI (al : Bool) (su ta : Str) (at_ : List Str) (rg : List Int) (us : Str) (gs : List Str) (n a : Str) (ri : Int) (k : Nat) (τ : St) : Prop :=
  τ 2 = .box (.agg [.bool al, .str su, .str ta, .sl (at_.map .str), .sl (rg.map (.int .i64))]) ∧ τ 3 = .box (.agg [.agg [.str us, .sl (gs.map .str)], .str n, .str a, .int .i64 ri]) ∧ τ 5 = .d (.int .i64 k) ∧ NoneT (fun g => decide (su = gMark ++ g)) gs k
theorem mentioned_fn (r : ARule) (u : Subj) (n a : Str) (ri : Int) (hu : List.length u.1 ≤ 300) (hg : ∀ g ∈ u.2, List.length g ≤ 300) (hc : u.2.length ≤ 20) :
    Ctr Tryz.prog 30 [.d (aruleD r), .d (caseD u n a ri)] (.d (.bool (mentP r u n))) := by
  refine fn_of_vwp (fun _ => false) (by kernel_rfl) Tryz.func30 (by kernel_rfl) rfl rfl (Nat.le_of_ble_eq_true rfl) (by kernel_rfl) rfl rfl ?_
  obtain ⟨al, su, ta, at_, rg⟩ := r
  obtain ⟨us, gs⟩ := u
  simp only at hu hg hc
  obtain ⟨R, hR⟩ : ∃ R, mentP (al, su, ta, at_, rg) (us, gs) n = R := ⟨_, rfl⟩
  rw [hR]
  simp only [mentP] at hR
  have key : (¬ su = uMark ++ us → ¬ (su = selfW ∧ us = n) → vwp Tryz.prog (fun _ => false) .skip (fun _ _ => True) (fun _ => .undef)) := fun _ _ => by simp
  by_cases h1 : su = uMark ++ us
  · have : R = true := by rw [← hR]; simp [h1]
    have h1' : su = [117, 115, 101, 114, 58] ++ us := h1
    simp -implicitDefEqProofs [aruleD, caseD, subjD, strs, ints, h1', this]
    try omega
  have h1' : ¬ su = 117 :: 115 :: 101 :: 114 :: 58 :: us := h1
  by_cases h2 : su = selfW ∧ us = n
  · have : R = true := by rw [← hR]; simp [h2.1, h2.2]
    obtain ⟨h21, h22⟩ := h2
    subst h21 h22
    simp -implicitDefEqProofs [aruleD, caseD, subjD, strs, ints, h1', this]
    try omega
  have hRR : R = gs.any fun g => decide (su = gMark ++ g) := by
    rw [← hR, decide_eq_false h1]
    have : (decide (su = selfW) && decide (us = n)) = false := by
      by_cases q : su = selfW
      · have : ¬ us = n := fun e => h2 ⟨q, e⟩
        simp [this]
      · simp [q]
    rw [this]; rfl
  have pre : ∀ (K : St → Prop) (σ : St), True := fun _ _ => trivial
  by_cases h3 : su = selfW
  case' pos =>
    have h4 : ¬ us = n := fun e => h2 ⟨h3, e⟩
    have h3' : su = [115, 101, 108, 102] := h3
    have h5 : ¬ ([115, 101, 108, 102] : Str) = 117 :: 115 :: 101 :: 114 :: 58 :: us := by simp
    simp -implicitDefEqProofs [aruleD, caseD, subjD, strs, ints, h3', h4, h5]
  case' neg =>
    have h3' : ¬ su = [115, 101, 108, 102] := h3
    simp -implicitDefEqProofs [aruleD, caseD, subjD, strs, ints, h1', h3']
  all_goals
    repeat refine And.intro (by omega) ?_
    refine loopN gs.length (MentI al su ta at_ rg us gs n a ri) ⟨by simp [h3'], by simp, by simp, .zero⟩ ?_
    rintro k τ hk ⟨g2, g3, g5, hI⟩
    by_cases hlt : k < gs.length
    · have hlt' : (k : Int) < gs.length := by omega
      have hgl := hg _ (List.getElem_mem hlt)
      by_cases h6 : su = gMark ++ gs[k]
      · have : R = true := by rw [hRR]; exact any_at hlt (by simpa using h6)
        have h6' : su = 103 :: 114 :: 111 :: 117 :: 112 :: 58 :: gs[k] := h6
        simp -implicitDefEqProofs [g2, g3, g5, hlt, hlt', ← h6', this]
        try omega
      · have h6' : ¬ su = 103 :: 114 :: 111 :: 117 :: 112 :: 58 :: gs[k] := h6
        simp -implicitDefEqProofs [g2, g3, g5, hlt, hlt', h6']
        repeat refine And.intro (by omega) ?_
        refine again hlt ⟨by simp [g2], by simp [g3], by simp, hI.succ hlt (by simpa using h6)⟩
    · have hlt' : ¬ (k : Int) < gs.length := by omega
      rw [hI.all hlt] at hRR
      simp -implicitDefEqProofs [g2, g3, g5, hlt', hRR]
      try omega
end Go.Proofs.Tz

/- The statements about layer 14: the small cases. -/
set_option maxRecDepth 100000
set_option maxHeartbeats 8000000
set_option linter.unusedVariables false
set_option linter.unusedSimpArgs false
namespace Go.Proofs.Tz
open Go.Vw Go.RowKit Go.Proofs

def annS : Str := [99, 110, 61, 97, 110, 110]
def bobS : Str := [99, 110, 61, 98, 111, 98]
def mailS : Str := [109, 97, 105, 108]
def MAILS : Str := [77, 65, 73, 76]
def cnS : Str := [99, 110]
def lr : List ARule := [(true, [42], [], [], [1]), (false, [42], annS, [mailS], [1])]
def lu : Subj := (bobS, [])
def lself : List ARule := [(true, [115, 101, 108, 102], [], [], [3])]
def lp : List ARule := [(true, [117, 115, 101, 114, 58, 99, 110, 61, 97, 110, 110], [], [cnS, mailS], [1, 3])]
def ltx : Str := [97, 108, 108, 111, 119, 32, 42, 32, 111, 110, 32, 45, 32, 97, 116, 116, 114, 115, 32, 45, 32, 114, 105, 103, 104, 116, 115, 32, 114, 101, 97, 100, 10, 100, 101, 110, 121, 32, 42, 32, 111, 110, 32, 99, 110, 37, 51, 68, 97, 110, 110, 32, 97, 116, 116, 114, 115, 32, 109, 97, 105, 108, 32, 114, 105, 103, 104, 116, 115, 32, 114, 101, 97, 100, 10]
def lpt : Str := [97, 108, 108, 111, 119, 32, 117, 115, 101, 114, 58, 99, 110, 37, 51, 68, 97, 110, 110, 32, 111, 110, 32, 45, 32, 97, 116, 116, 114, 115, 32, 99, 110, 44, 109, 97, 105, 108, 32, 114, 105, 103, 104, 116, 115, 32, 114, 101, 97, 100, 44, 119, 114, 105, 116, 101, 10]
def le : Ent := (annS, [(cnS, [[97]]), (mailS, [[109]])])
theorem l_dec1 : decP lr lu annS MAILS 1 = (false, 1) := by decide +kernel
theorem l_dec2 : decP lr lu bobS mailS 1 = (true, 0) := by decide +kernel
theorem l_dec3 : decP lr lu bobS mailS 3 = (false, -1) := by decide +kernel
theorem l_text : textA lr = (ltx, 0) := by decide +kernel
theorem l_ptext : textA lp = (lpt, 0) := by decide +kernel
theorem l_parse : parseA lpt = (lp, 0, 0) := backA1 l_ptext
theorem l_view : viewP lr lu le = ((annS, [(cnS, [[97]])]), true) := by decide +kernel
theorem l_w1 : writesP lself lu bobS [(0, cnS, [])] = 0 := by decide +kernel
theorem l_w2 : writesP lself lu annS [(0, cnS, [])] = 11 := by decide +kernel
theorem l_vis : visP lr lu bobS [] = false := by decide +kernel
theorem l_chk : checkAR lr = 0 := by decide +kernel
theorem l_app : appliesP (true, [42], [], [], [1]) lu annS = true := by decide +kernel
theorem fitU_lu : FitU lu := (knows_fit (u := lu) (by decide +kernel)).1
theorem fit_lr : FitARs lr := few_fit (by decide +kernel)
theorem fit_lself : FitARs lself := few_fit (by decide +kernel)
theorem fit_le : List.length le.1 ≤ 300 ∧ le.2.length ≤ 40 ∧ Fit2 le.2 ∧ Fits (sortedL le.2) ∧ ∀ a ∈ le.2, List.length a.1 ≤ 300 := lightE_fit (by decide +kernel)
theorem fit_m1 : FitMods [(0, cnS, [])] := ⟨by decide, by decide⟩

theorem alive_fn : Ctr Tryz.prog 10 [] (.d (.bool true)) := by
  refine fn_of_vwp (fun _ => false) (by kernel_rfl) Tryz.func10 (by kernel_rfl) rfl rfl (Nat.le_of_ble_eq_true rfl) (by kernel_rfl) rfl rfl ?_
  have h1 := decide_fn lr lu annS MAILS 1 fit_lr fitU_lu (by decide) (by decide)
  have h2 := decide_fn lr lu bobS mailS 1 fit_lr fitU_lu (by decide) (by decide)
  have h3 := decide_fn lr lu bobS mailS 3 fit_lr fitU_lu (by decide) (by decide)
  have h4 := atext_fn lr fit_lr
  have h5 := aparse_fn lpt (by decide)
  have h6 := view_fn lr lu le fit_lr fitU_lu (by decide) fit_le.2.2.1 fit_le.2.2.2.1
  have h7 := writes_fn lself lu bobS [(0, cnS, [])] fit_lself fitU_lu (by decide) fit_m1
  have h8 := writes_fn lself lu annS [(0, cnS, [])] fit_lself fitU_lu (by decide) fit_m1
  have h9 := visible_fn lr lu bobS [] fit_lr fitU_lu (by decide) (by decide) (by simp)
  have h10 := checkAR_fn lr fit_lr
  have h11 := applies_fn (true, [42], [], [], [1]) lu annS (fit_lr.2 _ (by simp [lr])) fitU_lu (by decide)
  rw [l_dec1] at h1
  rw [l_dec2] at h2
  rw [l_dec3] at h3
  rw [l_text] at h4
  rw [l_parse] at h5
  rw [l_view] at h6
  rw [l_w1] at h7
  rw [l_w2] at h8
  rw [l_vis] at h9
  rw [l_chk] at h10
  rw [l_app] at h11
  simp only [lr, lu, lself, lp, ltx, lpt, le, annS, bobS, mailS, MAILS, cnS, arules, aruleD, subjD, entD, atts, att, amods, amodD, strs, ints, List.map_cons, List.map_nil] at h1 h2 h3 h4 h5 h6 h7 h8 h9 h10 h11
  simp -implicitDefEqProofs
  repeat refine And.intro (by decide) ?_
  refine callK h1 ?_
  simp -implicitDefEqProofs
  refine callK h2 ?_
  simp -implicitDefEqProofs
  refine callK h3 ?_
  simp -implicitDefEqProofs
  refine callK h4 ?_
  simp -implicitDefEqProofs
  refine callK h5 ?_
  simp -implicitDefEqProofs
  repeat refine And.intro (by decide) ?_
  refine callK h6 ?_
  simp -implicitDefEqProofs
  repeat refine And.intro (by decide) ?_
  refine callP h7 ?_
  simp -implicitDefEqProofs
  refine callP h8 ?_
  simp -implicitDefEqProofs
  refine callP h9 ?_
  simp -implicitDefEqProofs
  refine callP h10 ?_
  simp -implicitDefEqProofs
  refine callP h11 ?_
  simp -implicitDefEqProofs
end Go.Proofs.Tz

/- The statements about layer 14: AccessViews, AccessOrders. -/
set_option maxRecDepth 100000
set_option maxHeartbeats 8000000
set_option linter.unusedVariables false
set_option linter.unusedSimpArgs false
namespace Go.Proofs.Tz
open Go.Vw Go.RowKit Go.Proofs

theorem total_filter (p : Att → Bool) : ∀ l : List Att, total (l.filter p) ≤ total l
  | [] => by simp [total]
  | a :: l => by
    have ih := total_filter p l
    simp only [total] at ih ⊢
    rw [List.filter_cons]
    split
    · simp only [List.map_cons, List.sum_cons]; omega
    · simp only [List.map_cons, List.sum_cons]; omega
theorem seen_fit {l : List ARule} {u : Subj} {e : Ent} (h : Fit2 e.2) : Fit2 (viewP l u e).1.2 := by
  have hs := sorted_fit2 h
  unfold viewP
  split
  · exact ⟨⟨by simp, by simp⟩, by simp [total]⟩
  · refine ⟨⟨Nat.lt_of_le_of_lt (List.length_filter_le _ _) hs.1.1, fun a ha => hs.1.2 a (List.mem_filter.1 ha).1⟩, Nat.lt_of_le_of_lt (total_filter _ _) hs.2⟩
def modOf (a : Att) : AMod := (3, a.1, a.2)

theorem law4 (l : List ARule) (u : Subj) (e : Ent) (b1 : l.length ≤ 140737488351232) (b2 : ∀ r ∈ l, r.2.2.2.1.length ≤ 140737488351232) (b3 : u.2.length ≤ 140737488351232) (b4 : e.2.length ≤ 140737488351232) (b5 : ∀ a ∈ e.2, a.2.length ≤ 140737488351232) :
    Ctr Tryz.prog 4 [.d (arules l), .d (subjD u), .d (entD e)] (.d (.bool true)) := by
  refine fn_of_vwp (fun _ => false) (by kernel_rfl) Tryz.func4 (by kernel_rfl) rfl rfl (Nat.le_of_ble_eq_true rfl) (by kernel_rfl) rfl rfl ?_
  have c1 := few_fn l b1 b2
  have c2 := knows_fn u b3
  have c3 := lightE_fn e b4 b5
  have hA := alive_fn
  by_cases h1 : fewAB l = true
  case neg =>
    obtain ⟨us, gs⟩ := u
    obtain ⟨n, at_⟩ := e
    rw [show fewAB l = false by simpa using h1] at c1
    simp only [arules] at c1
    simp -implicitDefEqProofs [arules, subjD, entD, atts, strs]
    refine callK c1 ?_
    simp -implicitDefEqProofs
    refine callK hA ?_
    simp -implicitDefEqProofs
  by_cases h2 : knowsB u = true
  case neg =>
    obtain ⟨us, gs⟩ := u
    obtain ⟨n, at_⟩ := e
    rw [h1] at c1
    rw [show knowsB (us, gs) = false by simpa using h2] at c2
    simp only [arules, subjD, strs] at c1 c2
    simp -implicitDefEqProofs [arules, subjD, entD, atts, strs]
    refine callK c1 ?_
    simp -implicitDefEqProofs
    refine callK c2 ?_
    simp -implicitDefEqProofs
    refine callK hA ?_
    simp -implicitDefEqProofs
  by_cases h3 : lightE e = true
  case neg =>
    obtain ⟨us, gs⟩ := u
    obtain ⟨n, at_⟩ := e
    rw [h1] at c1
    rw [h2] at c2
    rw [show lightE (n, at_) = false by simpa using h3] at c3
    simp only [arules, subjD, entD, atts, strs] at c1 c2 c3
    simp -implicitDefEqProofs [arules, subjD, entD, atts, strs]
    refine callK c1 ?_
    simp -implicitDefEqProofs
    refine callK c2 ?_
    simp -implicitDefEqProofs
    refine callK c3 ?_
    simp -implicitDefEqProofs
    refine callK hA ?_
    simp -implicitDefEqProofs
  have fl := few_fit h1
  obtain ⟨fu, _, _, _⟩ := knows_fit h2
  obtain ⟨en, el, ef, es, ea⟩ := lightE_fit h3
  rw [h1] at c1
  rw [h2] at c2
  rw [h3] at c3
  have c4 := view_fn l u e fl fu (by omega) ef es
  have c5 := viewR_fn l u e fl fu (by omega) ef es
  have hvf := seen_fit (l := l) (u := u) ef
  have c6 := equalR_fn (viewP l u e).1.2 (viewP l u e).1.2 hvf hvf (sorted_fit2 hvf).1 (sorted_fit2 hvf).1
  rw [decide_eq_true rfl] at c6
  have fm : FitMods (e.2.map modOf) := ⟨by simp; omega, fun m hm => by
    obtain ⟨a, ha, rfl⟩ := List.mem_map.1 hm
    have := ea a ha
    show List.length a.1 < 1000000
    omega⟩
  have c7 := writes_fn l u e.1 (e.2.map modOf) fl fu (by omega) fm
  have c8 := writesR_fn l u e.1 (e.2.map modOf) fl fu (by omega) fm
  have fn : ∀ a ∈ e.2.map (·.1), List.length a < 1000000 := fun s hs => by
    obtain ⟨a, ha, rfl⟩ := List.mem_map.1 hs
    have := ea a ha
    omega
  have c9 := visible_fn l u e.1 (e.2.map (·.1)) fl fu (by omega) (by simp; omega) fn
  have c10 := visibleR_fn l u e.1 (e.2.map (·.1)) fl fu (by omega) (by simp; omega) fn
  have c11 := visible_fn l u e.1 [] fl fu (by omega) (by simp) (by simp)
  have c12 := visibleR_fn l u e.1 [] fl fu (by omega) (by simp) (by simp)
  generalize viewP l u e = V at *
  generalize writesP l u e.1 (e.2.map modOf) = W at *
  generalize visP l u e.1 (e.2.map (·.1)) = X at *
  generalize visP l u e.1 [] = Y at *
  obtain ⟨⟨vn, va⟩, vb⟩ := V
  obtain ⟨us, gs⟩ := u
  obtain ⟨n, at_⟩ := e
  clear fm fn hvf ef es
  simp only at el en
  simp only [arules, subjD, entD, atts, strs, amods, List.map_map, List.map_nil] at c1 c2 c3 c4 c5 c6 c7 c8 c9 c10 c11 c12
  simp -implicitDefEqProofs [arules, subjD, entD, atts, strs]
  refine callK c1 ?_
  simp -implicitDefEqProofs
  refine callK c2 ?_
  simp -implicitDefEqProofs
  refine callK c3 ?_
  simp -implicitDefEqProofs
  refine callK c4 ?_
  simp -implicitDefEqProofs
  refine callK c5 ?_
  simp -implicitDefEqProofs
  refine loopN at_.length (fun k τ => τ 0 = .d (.sl (l.map aruleD)) ∧ τ 4 = .box (.agg [.str us, .sl (gs.map .str)]) ∧ τ 5 = .box (.agg [.str n, .sl (at_.map att)]) ∧ τ 7 = .box (.agg [.str vn, .sl (va.map att)]) ∧ τ 9 = .box (.agg [.str vn, .sl (va.map att)]) ∧ τ 8 = .d (.bool vb) ∧ τ 10 = .d (.bool vb) ∧
    τ 13 = .d (.int .i64 k) ∧ τ 11 = .own false 48 ((at_.map (amodD ∘ modOf)).take k) ∧ τ 12 = .own false 9 ((at_.map (D.str ∘ fun x => x.1)).take k)) ⟨by simp, by simp, by simp, by simp, by simp, by simp, by simp, by simp, by simp, by simp⟩ ?_
  rintro k τ hk ⟨g0, g4, g5, g7, g9, g8, g10, g13, g11, g12⟩
  by_cases hlt : k < at_.length
  · have hlt' : (k : Int) < at_.length := by omega
    have t1 : List.take (k + 1) (at_.map (amodD ∘ modOf)) = List.take k (at_.map (amodD ∘ modOf)) ++ [amodD (modOf at_[k])] := by
      rw [take_s (by simpa using hlt)]; simp
    have t2 : List.take (k + 1) (at_.map (D.str ∘ fun x => x.1)) = List.take k (at_.map (D.str ∘ fun x => x.1)) ++ [D.str at_[k].1] := by
      rw [take_s (by simpa using hlt)]; simp
    generalize hx : at_[k] = x at *
    obtain ⟨an, av⟩ := x
    simp -implicitDefEqProofs [g0, g4, g5, g7, g9, g8, g10, g13, g11, g12, hlt, hlt', hx, att, strs]
    repeat refine And.intro (by first | omega | (simp; omega)) ?_
    exact again hlt ⟨by simp [g0], by simp [g4], by simp [g5], by simp [g7], by simp [g9], by simp [g8], by simp [g10], by simp, by simp [t1, amodD, modOf, strs], by simp [t2]⟩
  · have hlt' : ¬ (k : Int) < at_.length := by omega
    rw [List.take_of_length_le (by simp; omega)] at g11 g12
    simp -implicitDefEqProofs [g0, g4, g5, g7, g9, g8, g10, g13, g11, g12, hlt']
    refine callK c6 ?_
    simp -implicitDefEqProofs [g0, g4, g5, g7, g9, g8, g10, g13, g11, g12]
    refine callP c7 ?_
    simp -implicitDefEqProofs [g0, g4, g5, g7, g9, g8, g10, g13, g11, g12]
    refine callP c8 ?_
    simp -implicitDefEqProofs [g0, g4, g5, g7, g9, g8, g10, g13, g11, g12]
    refine callP c9 ?_
    simp -implicitDefEqProofs [g0, g4, g5, g7, g9, g8, g10, g13, g11, g12]
    refine callP c10 ?_
    simp -implicitDefEqProofs [g0, g4, g5, g7, g9, g8, g10, g13, g11, g12]
    refine callP c11 ?_
    simp -implicitDefEqProofs [g0, g4, g5, g7, g9, g8, g10, g13, g11, g12]
    refine callP c12 ?_
    simp -implicitDefEqProofs [g0, g4, g5, g7, g9, g8, g10, g13, g11, g12]
    refine callP hA ?_
    simp -implicitDefEqProofs
end Go.Proofs.Tz

/- The statements about layer 14: AccessOrders, AccessLocal. -/
set_option maxRecDepth 100000
set_option maxHeartbeats 8000000
set_option linter.unusedVariables false
set_option linter.unusedSimpArgs false
namespace Go.Proofs.Tz
open Go.Vw Go.RowKit Go.Proofs

def lawOut (l : List ARule) (u : Subj) (n a : Str) : Prop := ¬ (fewAB l = true ∧ knowsB u = true ∧ List.length n ≤ 300 ∧ List.length a ≤ 300)
theorem rev_at {l : List ARule} {k : Nat} (h : k < l.length) : l.reverse[k]'(by simpa using h) = l[l.length - 1 - k]'(by omega) := by simp

theorem law6 (l : List ARule) (u : Subj) (n a : Str) (ri : Int) (b1 : l.length ≤ 140737488351232) (b2 : ∀ r ∈ l, r.2.2.2.1.length ≤ 140737488351232) (b3 : u.2.length ≤ 140737488351232) :
    Ctr Tryz.prog 6 [.d (arules l), .d (caseD u n a ri)] (.d (.bool true)) := by
  refine fn_of_vwp (fun _ => false) (by kernel_rfl) Tryz.func6 (by kernel_rfl) rfl rfl (Nat.le_of_ble_eq_true rfl) (by kernel_rfl) rfl rfl ?_
  have c1 := few_fn l b1 b2
  have c2 := knows_fn u b3
  have hA := alive_fn
  by_cases h1 : fewAB l = true
  case neg =>
    obtain ⟨us, gs⟩ := u
    rw [show fewAB l = false by simpa using h1] at c1
    simp only [arules] at c1
    simp -implicitDefEqProofs [arules, caseD, subjD, strs]
    refine callK c1 ?_
    simp -implicitDefEqProofs
    refine callK hA ?_
    simp -implicitDefEqProofs
  by_cases h2 : knowsB u = true
  case neg =>
    obtain ⟨us, gs⟩ := u
    rw [h1] at c1
    rw [show knowsB (us, gs) = false by simpa using h2] at c2
    simp only [arules, subjD, strs] at c1 c2
    simp -implicitDefEqProofs [arules, caseD, subjD, strs]
    refine callK c1 ?_
    simp -implicitDefEqProofs
    refine callK c2 ?_
    simp -implicitDefEqProofs
    refine callK hA ?_
    simp -implicitDefEqProofs
  have fl := few_fit h1
  obtain ⟨l70, _⟩ := fewAB_ok h1
  obtain ⟨fu, _, _, _⟩ := knows_fit h2
  rw [h1] at c1
  rw [h2] at c2
  by_cases h3 : (300 : Int) < List.length n
  · obtain ⟨us, gs⟩ := u
    simp only [arules, subjD, strs] at c1 c2
    simp -implicitDefEqProofs [arules, caseD, subjD, strs]
    refine callK c1 ?_
    simp -implicitDefEqProofs
    refine callK c2 ?_
    simp -implicitDefEqProofs [h3]
    refine callK hA ?_
    simp -implicitDefEqProofs
  by_cases h4 : (300 : Int) < List.length a
  · obtain ⟨us, gs⟩ := u
    simp only [arules, subjD, strs] at c1 c2
    simp -implicitDefEqProofs [arules, caseD, subjD, strs]
    refine callK c1 ?_
    simp -implicitDefEqProofs
    refine callK c2 ?_
    simp -implicitDefEqProofs [h3, h4]
    refine callK hA ?_
    simp -implicitDefEqProofs
  have frev : FitARs l.reverse := ⟨by simpa using fl.1, fun r hr => fl.2 r (by simpa using hr)⟩
  have fmore : FitARs (l ++ [(false, starW, n, [], [ri])]) := ⟨by simp; omega, fun r hr => by
    rcases List.mem_append.1 hr with hr | hr
    · exact fl.2 r hr
    · rw [List.mem_singleton.1 hr]
      exact ⟨by simp, by simp only; omega, by simp, by simp, by simp⟩⟩
  have c4 := decide_fn l u n a ri fl fu (by omega) (by omega)
  have c5 := decide_fn l.reverse u n a ri frev fu (by omega) (by omega)
  have c6 := decide_fn [] u n a ri ⟨by simp, by simp⟩ fu (by omega) (by omega)
  have c7 := decide_fn (l ++ [(false, starW, n, [], [ri])]) u n a ri fmore fu (by omega) (by omega)
  have c8 := nvalidR_fn n (by omega)
  rw [dec_nil] at c6
  obtain ⟨q1, q2⟩ := dec_rev l u n a ri
  obtain ⟨q3, q4⟩ := dec_lt l u n a ri
  have q5 := dec_deny l u n a ri
  generalize decP l u n a ri = D at *
  generalize decP l.reverse u n a ri = E at *
  generalize decP (l ++ [(false, starW, n, [], [ri])]) u n a ri = G at *
  obtain ⟨da, di⟩ := D
  obtain ⟨ea, ei⟩ := E
  obtain ⟨ga, gi⟩ := G
  simp only at q1 q2 q3 q4 q5
  subst q1
  obtain ⟨us, gs⟩ := u
  clear fmore frev
  have q6 : decide (di < 0) = decide (ei < 0) := decide_eq_decide.2 q2
  have z1 : ((l.length : Int) - 1) = ((l.length : Int) - 1 - (0 : Nat)) := by omega
  simp only [arules, subjD, strs, List.map_append, List.map_cons, List.map_nil, List.map_reverse] at c1 c2 c4 c5 c6 c7
  simp only [aruleD, strs, ints, List.map_cons, List.map_nil] at c7
  simp -implicitDefEqProofs [arules, caseD, subjD, strs]
  refine callK c1 ?_
  simp -implicitDefEqProofs
  refine callK c2 ?_
  simp -implicitDefEqProofs [h3, h4]
  repeat refine And.intro (by omega) ?_
  refine loopN l.length (fun k τ => τ 0 = .d (.sl (l.map aruleD)) ∧ τ 3 = .box (.agg [.agg [.str us, .sl (gs.map .str)], .str n, .str a, .int .i64 ri]) ∧ τ 6 = .own false 58 [] ∧ τ 7 = .d (.int .i64 ((l.length : Int) - 1 - k)) ∧ τ 5 = .own false 58 ((l.reverse.map aruleD).take k)) ⟨by simp, by simp, by simp, by simp, by simp⟩ ?_
  rintro k τ hk ⟨g0, g3, g6, g7, g5⟩
  by_cases hlt : k < l.length
  · have i0 : (0 : Int) ≤ (l.length : Int) - 1 - k := by omega
    have j0 : ((l.length : Int) - 1 - k).toNat = l.length - 1 - k := by omega
    have hi : l.length - 1 - k < l.length := by omega
    have i00 : (k : Int) ≤ (l.length : Int) - 1 := by omega
    have t1 : List.take (k + 1) (l.reverse.map aruleD) = List.take k (l.reverse.map aruleD) ++ [aruleD l[l.length - 1 - k]] := by
      rw [take_s (by simpa using hlt), List.getElem_map, rev_at hlt]
    generalize hx : l[l.length - 1 - k] = x at *
    obtain ⟨al, su, ta, at_, rg⟩ := x
    simp -implicitDefEqProofs [g0, g3, g6, g7, g5, i0, i00, j0, hi, hx, aruleD, strs, ints]
    repeat refine And.intro (by first | omega | (simp; omega)) ?_
    refine again hlt ⟨by simp [g0, aruleD, strs, ints], by simp [g3], by simp [g6], by simp; omega, ?_⟩
    simpa [aruleD, strs, ints, List.map_reverse] using t1.symm
  · have i0 : ¬ (0 : Int) ≤ (l.length : Int) - 1 - k := by omega
    have i00 : ¬ (k : Int) ≤ (l.length : Int) - 1 := by omega
    rw [List.take_of_length_le (by simp; omega)] at g5
    have hni : ¬ (l.length : Int) ≤ di := by omega
    have hgv : ga = true → validU n = false := fun e => by
      by_cases hv : validU n = true
      · rw [q5 hv] at e; cases e
      · simpa using hv
    by_cases hneg : di < 0
    · have hneg2 : ei < 0 := q2.1 hneg
      have hneg3 : ¬ 0 ≤ di := by omega
      cases ga
      case false =>
        simp -implicitDefEqProofs [g0, g3, g6, g7, g5, i0, i00]
        refine callK c4 ?_
        simp -implicitDefEqProofs [g0, g3, g6, g7, g5]
        refine callK c5 ?_
        simp -implicitDefEqProofs [g0, g3, g6, g7, g5]
        refine callK c6 ?_
        simp -implicitDefEqProofs [g0, g3, g6, g7, g5, hneg, hneg2, hneg3, hni]
        refine ⟨by rintro w (⟨_, _, _, _, _, rfl⟩ | ⟨_, _, _, _, _, rfl⟩) <;> rfl, by omega, by omega, by omega, by omega, ?_⟩
        refine callK c7 ?_
        simp -implicitDefEqProofs [g0, g3, g6, g7, g5]
        refine callK hA ?_
        simp -implicitDefEqProofs
      case true =>
        have hv := hgv rfl
        simp -implicitDefEqProofs [g0, g3, g6, g7, g5, i0, i00]
        refine callK c4 ?_
        simp -implicitDefEqProofs [g0, g3, g6, g7, g5]
        refine callK c5 ?_
        simp -implicitDefEqProofs [g0, g3, g6, g7, g5]
        refine callK c6 ?_
        simp -implicitDefEqProofs [g0, g3, g6, g7, g5, hneg, hneg2, hneg3, hni]
        refine ⟨by rintro w (⟨_, _, _, _, _, rfl⟩ | ⟨_, _, _, _, _, rfl⟩) <;> rfl, by omega, by omega, by omega, by omega, ?_⟩
        refine callK c7 ?_
        simp -implicitDefEqProofs [g0, g3, g6, g7, g5]
        refine callK c8 ?_
        simp -implicitDefEqProofs [hv]
        refine callK hA ?_
        simp -implicitDefEqProofs
    · have hneg2 : ¬ ei < 0 := fun e => hneg (q2.2 e)
      obtain ⟨i, hi⟩ := Int.eq_ofNat_of_zero_le (show 0 ≤ di by omega)
      obtain ⟨hil, hie⟩ := q4 i hi
      subst hi
      have hil' : (i : Int) < l.length := by omega
      have hneg4 : ¬ ((i : Int) < 0) := by omega
      have hr : ∃ r, l[i] = r := ⟨_, rfl⟩
      obtain ⟨r, hr⟩ := hr
      rw [hr] at hie
      obtain ⟨al, su, ta, at_, rg⟩ := r
      simp only at hie
      subst hie
      have hD : aruleD (al, su, ta, at_, rg) = .agg [.bool al, .str su, .str ta, strs at_, ints rg] := rfl
      cases ga
      case false =>
        simp -implicitDefEqProofs [g0, g3, g6, g7, g5, i0, i00]
        refine callK c4 ?_
        simp -implicitDefEqProofs [g0, g3, g6, g7, g5]
        refine callK c5 ?_
        simp -implicitDefEqProofs [g0, g3, g6, g7, g5]
        refine callK c6 ?_
        simp -implicitDefEqProofs [g0, g3, g6, g7, g5, hneg2, hneg4, hni, hil, hil', hr, hD]
        refine ⟨rfl, by rintro w (⟨_, _, _, _, _, rfl⟩ | ⟨_, _, _, _, _, rfl⟩) <;> rfl, by omega, by omega, by omega, by omega, ?_⟩
        refine callK c7 ?_
        simp -implicitDefEqProofs [g0, g3, g6, g7, g5]
        refine callK hA ?_
        simp -implicitDefEqProofs
      case true =>
        have hv := hgv rfl
        simp -implicitDefEqProofs [g0, g3, g6, g7, g5, i0, i00]
        refine callK c4 ?_
        simp -implicitDefEqProofs [g0, g3, g6, g7, g5]
        refine callK c5 ?_
        simp -implicitDefEqProofs [g0, g3, g6, g7, g5]
        refine callK c6 ?_
        simp -implicitDefEqProofs [g0, g3, g6, g7, g5, hneg2, hneg4, hni, hil, hil', hr, hD]
        refine ⟨rfl, by rintro w (⟨_, _, _, _, _, rfl⟩ | ⟨_, _, _, _, _, rfl⟩) <;> rfl, by omega, by omega, by omega, by omega, ?_⟩
        refine callK c7 ?_
        simp -implicitDefEqProofs [g0, g3, g6, g7, g5]
        refine callK c8 ?_
        simp -implicitDefEqProofs [hv]
        refine callK hA ?_
        simp -implicitDefEqProofs

/-- A list's rules that are about an entry's subtree. -/
theorem fit_filter {l : List ARule} {p : ARule → Bool} (h : FitARs l) : FitARs (l.filter p) := ⟨Nat.lt_of_le_of_lt (List.length_filter_le _ _) h.1, fun r hr => h.2 r (List.mem_filter.1 hr).1⟩
theorem law7 (l : List ARule) (u : Subj) (n a : Str) (ri : Int) (b1 : l.length ≤ 140737488351232) (b2 : ∀ r ∈ l, r.2.2.2.1.length ≤ 140737488351232) (b3 : u.2.length ≤ 140737488351232) :
    Ctr Tryz.prog 7 [.d (arules l), .d (caseD u n a ri)] (.d (.bool true)) := by
  refine fn_of_vwp (fun _ => false) (by kernel_rfl) Tryz.func7 (by kernel_rfl) rfl rfl (Nat.le_of_ble_eq_true rfl) (by kernel_rfl) rfl rfl ?_
  have c1 := few_fn l b1 b2
  have c2 := knows_fn u b3
  have hA := alive_fn
  by_cases h1 : fewAB l = true
  case neg =>
    obtain ⟨us, gs⟩ := u
    rw [show fewAB l = false by simpa using h1] at c1
    simp only [arules] at c1
    simp -implicitDefEqProofs [arules, caseD, subjD, strs]
    refine callK c1 ?_
    simp -implicitDefEqProofs
    refine callK hA ?_
    simp -implicitDefEqProofs
  by_cases h2 : knowsB u = true
  case neg =>
    obtain ⟨us, gs⟩ := u
    rw [h1] at c1
    rw [show knowsB (us, gs) = false by simpa using h2] at c2
    simp only [arules, subjD, strs] at c1 c2
    simp -implicitDefEqProofs [arules, caseD, subjD, strs]
    refine callK c1 ?_
    simp -implicitDefEqProofs
    refine callK c2 ?_
    simp -implicitDefEqProofs
    refine callK hA ?_
    simp -implicitDefEqProofs
  have fl := few_fit h1
  obtain ⟨l70, _⟩ := fewAB_ok h1
  obtain ⟨fu, ku, kc, kg⟩ := knows_fit h2
  rw [h1] at c1
  rw [h2] at c2
  by_cases h3 : (300 : Int) < List.length n
  · obtain ⟨us, gs⟩ := u
    simp only [arules, subjD, strs] at c1 c2
    simp -implicitDefEqProofs [arules, caseD, subjD, strs]
    refine callK c1 ?_
    simp -implicitDefEqProofs
    refine callK c2 ?_
    simp -implicitDefEqProofs [h3]
    refine callK hA ?_
    simp -implicitDefEqProofs
  by_cases h4 : (300 : Int) < List.length a
  · obtain ⟨us, gs⟩ := u
    simp only [arules, subjD, strs] at c1 c2
    simp -implicitDefEqProofs [arules, caseD, subjD, strs]
    refine callK c1 ?_
    simp -implicitDefEqProofs
    refine callK c2 ?_
    simp -implicitDefEqProofs [h3, h4]
    refine callK hA ?_
    simp -implicitDefEqProofs
  have fu0 : FitU ([], []) := ⟨by simp, by simp, by simp⟩
  have c4 := decide_fn l u n a ri fl fu (by omega) (by omega)
  have c5 := decide_fn (l.filter fun r => underU n r.2.2.1) u n a ri (fit_filter fl) fu (by omega) (by omega)
  have c6 := decide_fn l ([], []) n a ri fl fu0 (by omega) (by omega)
  have cU := fun r (hr : r ∈ l) => nunderR_fn n r.2.2.1 (by omega) (fl.2 r hr).targ
  have cM := fun r => mentioned_fn r u n a ri ku kg kc
  have q1 := dec_near l u n a ri
  have q2 := dec_nobody l u n a ri
  have hany : l.any (fun r => mentP r u n) = false → ∀ r ∈ l, mentP r u n = false := fun h r hr => by
    have := List.any_eq_false.1 h r hr
    simpa using this
  generalize decP l u n a ri = D at *
  generalize decP (l.filter fun r => underU n r.2.2.1) u n a ri = E at *
  generalize decP l ([], []) n a ri = G at *
  obtain ⟨da, di⟩ := D
  obtain ⟨ea, ei⟩ := E
  obtain ⟨ga, gi⟩ := G
  simp only at q1 q2
  subst q1
  have q3 : l.any (fun r => mentP r u n) = true ∨ ga = ea := by
    cases h : l.any (fun r => mentP r u n) with
    | true => exact .inl rfl
    | false => exact .inr (q2 (hany h))
  clear q2 hany
  generalize hU : (fun r : ARule => underU n r.2.2.1) = U at *
  have hU' : ∀ r : ARule, underU n r.2.2.1 = U r := fun r => by rw [← hU]
  generalize hMt : (fun r : ARule => mentP r u n) = M at *
  have hM' : ∀ r : ARule, mentP r u n = M r := fun r => by rw [← hMt]
  simp only [hU'] at cU
  simp only [hM'] at cM
  obtain ⟨us, gs⟩ := u
  clear hU hMt hU' hM'
  simp only [arules, subjD, strs] at c1 c2 c4 c5 c6
  simp only [caseD, subjD, strs] at cM
  simp -implicitDefEqProofs [arules, caseD, subjD, strs]
  refine callK c1 ?_
  simp -implicitDefEqProofs
  refine callK c2 ?_
  simp -implicitDefEqProofs [h3, h4]
  refine loopN l.length (fun k τ => τ 0 = .d (.sl (l.map aruleD)) ∧ τ 3 = .box (.agg [.agg [.str us, .sl (gs.map .str)], .str n, .str a, .int .i64 ri]) ∧ τ 7 = .d (.int .i64 k) ∧ τ 5 = .own false 58 (((l.take k).filter U).map aruleD) ∧ τ 6 = .d (.bool ((l.take k).any M))) ⟨by simp, by simp, by simp, by simp, by simp⟩ ?_
  rintro k τ hk ⟨g0, g3, g7, g5, g6⟩
  have hfl := filter_take_len (p := U) l k hk
  by_cases hlt : k < l.length
  · have hlt' : (k : Int) < l.length := by omega
    have e1 := filter_snoc (p := U) hlt
    have e2 : (l.take (k + 1)).any M = ((l.take k).any M || M l[k]) := by rw [take_s hlt, List.any_append]; simp
    have k1 := cU _ (List.getElem_mem hlt)
    have k2 := cM l[k]
    have hr : ∃ r, l[k] = r := ⟨_, rfl⟩
    obtain ⟨r, hr⟩ := hr
    rw [hr] at e1 e2 k1 k2
    obtain ⟨al, su, ta, at_, rg⟩ := r
    simp only [aruleD, strs, ints] at k1 k2
    cases hu : U (al, su, ta, at_, rg) <;> cases hm : (l.take k).any M
    all_goals
      rw [hu] at e1 k1
      rw [hm] at e2 g6
      simp -implicitDefEqProofs [g0, g3, g7, g5, g6, hlt, hlt', hr, aruleD, strs, ints]
      refine callP k1 ?_
      first
        | (simp -implicitDefEqProofs [g0, g3, g7, g5, g6, hlt, hlt', hr, aruleD, strs, ints]
           repeat refine And.intro (by first | omega | (simp; omega)) ?_
           refine again hlt ⟨by simp [g0, aruleD, strs, ints], by simp [g3], by simp, by simp [e1, aruleD, strs, ints, g5], by simp [e2, g6]⟩
           done)
        | (simp -implicitDefEqProofs [g0, g3, g7, g5, g6, hlt, hlt', hr, aruleD, strs, ints]
           repeat refine And.intro (by first | omega | (simp; omega)) ?_
           refine callP k2 ?_
           simp -implicitDefEqProofs [g0, g3, g7, g5, g6]
           repeat refine And.intro (by first | omega | (simp; omega)) ?_
           refine again hlt ⟨by simp [g0, aruleD, strs, ints], by simp [g3], by simp, by simp [e1, aruleD, strs, ints, g5], by simp [e2, g6]⟩)
  · have hlt' : ¬ (k : Int) < l.length := by omega
    have htk : l.take k = l := List.take_of_length_le (by omega)
    rw [htk] at g5 g6
    rcases q3 with q3 | q3
    · rw [q3] at g6
      simp -implicitDefEqProofs [g0, g3, g7, g5, g6, hlt']
      refine callK c4 ?_
      simp -implicitDefEqProofs [g0, g3, g7, g5, g6]
      refine callK c5 ?_
      simp -implicitDefEqProofs [g0, g3, g7, g5, g6]
      refine callK c6 ?_
      simp -implicitDefEqProofs [g0, g3, g7, g5, g6]
      refine callK hA ?_
      simp -implicitDefEqProofs
    · subst q3
      cases hm : l.any M
      all_goals
        rw [hm] at g6
        simp -implicitDefEqProofs [g0, g3, g7, g5, g6, hlt']
        refine callK c4 ?_
        simp -implicitDefEqProofs [g0, g3, g7, g5, g6]
        refine callK c5 ?_
        simp -implicitDefEqProofs [g0, g3, g7, g5, g6]
        refine callK c6 ?_
        simp -implicitDefEqProofs [g0, g3, g7, g5, g6]
        refine callK hA ?_
        simp -implicitDefEqProofs
end Go.Proofs.Tz

/- The statements about layer 14: AccessLines. -/
set_option maxRecDepth 100000
set_option maxHeartbeats 8000000
set_option linter.unusedVariables false
set_option linter.unusedSimpArgs false
namespace Go.Proofs.Tz
open Go.Vw Go.RowKit Go.Proofs

theorem unesc_or (t : Str) : ∃ f, unescP (orD (escS t)) = (f, 0) ∧ ((t = [] ∧ f = [45] ∧ orD (escS t) = [45]) ∨ (t ≠ [] ∧ f = t)) := by
  cases t with
  | nil => exact ⟨[45], by simp only [unescP, show orD (escS []) = [45] from rfl, unesc45], .inl ⟨rfl, rfl, rfl⟩⟩
  | cons c t => exact ⟨c :: t, by rw [orD_ne (escS_ne (by simp)), unescP, unesc_esc], .inr ⟨by simp, rfl⟩⟩

theorem law8 (r : ARule) (b2 : r.2.2.2.1.length ≤ 140737488351232) : Ctr Tryz.prog 8 [.d (aruleD r)] (.d (.bool true)) := by
  refine fn_of_vwp (fun _ => false) (by kernel_rfl) Tryz.func8 (by kernel_rfl) rfl rfl (Nat.le_of_ble_eq_true rfl) (by kernel_rfl) rfl rfl ?_
  have c1 := few_fn [r] (by simp) (by simpa using b2)
  have hA := alive_fn
  by_cases h1 : fewAB [r] = true
  case neg =>
    obtain ⟨al, su, ta, at_, rg⟩ := r
    rw [show fewAB [(al, su, ta, at_, rg)] = false by simpa using h1] at c1
    simp only [arules, aruleD, strs, ints, List.map_cons, List.map_nil] at c1
    simp -implicitDefEqProofs [aruleD, strs, ints]
    refine callK c1 ?_
    simp -implicitDefEqProofs
    refine callK hA ?_
    simp -implicitDefEqProofs
  have fl := few_fit h1
  have fr := ((fewAB_ok h1).2 r (by simp))
  rw [h1] at c1
  have c2 := atext_fn [r] fl
  by_cases hc : checkAR [r] = 0
  case neg =>
    have ht : textA [r] = ([], checkAR [r]) := by rw [textA, if_neg hc]
    rw [ht] at c2
    generalize checkAR [r] = e at *
    obtain ⟨al, su, ta, at_, rg⟩ := r
    simp only [arules, aruleD, strs, ints, List.map_cons, List.map_nil] at c1 c2
    simp -implicitDefEqProofs [aruleD, strs, ints]
    refine callK c1 ?_
    simp -implicitDefEqProofs
    refine callK c2 ?_
    simp -implicitDefEqProofs [hc]
    refine callK hA ?_
    simp -implicitDefEqProofs
  have ok := (OkR.all hc).2 r (by simp)
  have hp : pLines lineA [r] = lineA r ++ [10] := by simp [pLines]
  by_cases h4 : 4096 < (pLines lineA [r]).length
  · have ht : textA [r] = ([], 3) := by rw [textA, if_pos hc, if_pos h4]
    rw [ht] at c2
    obtain ⟨al, su, ta, at_, rg⟩ := r
    simp only [arules, aruleD, strs, ints, List.map_cons, List.map_nil] at c1 c2
    simp -implicitDefEqProofs [aruleD, strs, ints]
    refine callK c1 ?_
    simp -implicitDefEqProofs
    refine callK c2 ?_
    simp -implicitDefEqProofs
    refine callK hA ?_
    simp -implicitDefEqProofs
  have ht : textA [r] = (lineA r ++ [10], 0) := by rw [textA, if_pos hc, if_neg h4, hp]
  rw [ht] at c2
  have hll := lineA_len ok fr.fit
  have c3 := cut07_fn (lineA r) 32 (by rw [hp, List.length_append] at h4; simp only [List.length_cons, List.length_nil] at h4; omega)
  have hs : splitB 32 (lineA r) = lineW r := split_join (by simp [lineW]) (lineW_no ok (.inl rfl))
  rw [hs] at c3
  obtain ⟨al, su, ta, at_, rg⟩ := r
  have q1 := fr.subj
  have q2 := fr.targ
  simp only at q1 q2
  have c4 := escape_fn su (by omega)
  have c5 := unescape_fn (orD (escS ta)) (by have := orD_len (escS ta); have := escS_len ta; omega)
  obtain ⟨f, e1, e2⟩ := unesc_or ta
  rw [e1] at c5
  have hW : lineW (al, su, ta, at_, rg) = [kindW al, escS su, onW, orD (escS ta), attrsW, orD (joinB 44 at_), rightsW, joinB 44 (rg.map rword)] := rfl
  rw [hW] at c3
  generalize lineA (al, su, ta, at_, rg) = L at *
  generalize escS su = S at *
  generalize orD (escS ta) = T at *
  generalize orD (joinB 44 at_) = A at *
  generalize joinB 44 (rg.map rword) = R at *
  generalize onW = O at *
  generalize attrsW = O2 at *
  generalize rightsW = O3 at *
  clear hs hW e1 ok fr fl h4 ht hp
  have hk : al = true ∧ kindW al = [97, 108, 108, 111, 119] ∨ al = false ∧ kindW al = denyW := by cases al <;> simp [kindW, allowW]
  have hd : ¬ denyW = [97, 108, 108, 111, 119] := by decide
  generalize denyW = DW at *
  simp only [arules, aruleD, strs, ints, u8, List.map_cons, List.map_nil] at c1 c2 c3
  have e3 : (ta = [] ∧ f = [45] ∧ T = [45]) ∨ (¬ ta = [] ∧ f = ta ∧ T = [45]) ∨ (¬ ta = [] ∧ f = ta ∧ ¬ T = [45]) := by
    rcases e2 with h | ⟨h1, h2⟩
    · exact .inl h
    · by_cases hT : T = [45]
      · exact .inr (.inl ⟨h1, h2, hT⟩)
      · exact .inr (.inr ⟨h1, h2, hT⟩)
  clear e2
  rcases hk with ⟨rfl, hk⟩ | ⟨rfl, hk⟩ <;> rcases e3 with ⟨rfl, rfl, rfl⟩ | ⟨hn, rfl, rfl⟩ | ⟨hn, rfl, hT⟩
  all_goals
    rw [hk] at c3
    simp -implicitDefEqProofs [aruleD, strs, ints]
    refine callK c1 ?_
    simp -implicitDefEqProofs
    refine callK c2 ?_
    simp -implicitDefEqProofs
    have hl1 : ¬ (List.length L : Int) + 1 = 0 := by omega
    have hl2 : (List.length L : Int) ≤ 9223372036854775807 := by omega
    refine ⟨hl1, hl2, hl1, hl2, ?_⟩
    refine callK c3 ?_
    simp -implicitDefEqProofs
    refine callP c4 ?_
    simp -implicitDefEqProofs
    refine callK c5 ?_
    first
      | simp -implicitDefEqProofs [hd, hn, hT]
      | simp -implicitDefEqProofs [hd, hn]
      | simp -implicitDefEqProofs [hd]
    first
      | done
      | (refine callP hA ?_
         simp -implicitDefEqProofs)
      | trace_state
end Go.Proofs.Tz

namespace Go.Proofs.Tz
open Go.Vw
set_option linter.unusedSimpArgs false

theorem fits_str {d : D} (h : Sh.Fits .str d) : ∃ s : Str, d = .str s := by
  simp only [Sh.Fits] at h
  obtain ⟨s, rfl, _⟩ := h
  exact ⟨s, rfl⟩
theorem fits_list {α : Type} {s : Sh} (g : α → D) (hs : ∀ d, Sh.Fits s d → ∃ a, d = g a) {d : D} (h : Sh.Fits (.sl s) d) : ∃ l : List α, d = .sl (l.map g) := by
  simp only [Sh.Fits] at h
  obtain ⟨ds, rfl, _, h⟩ := h
  have : ∀ ds : List D, (∀ x ∈ ds, Sh.Fits s x) → ∃ l : List α, ds = l.map g := by
    intro ds
    induction ds with
    | nil => intro _; exact ⟨[], rfl⟩
    | cons x ds ih =>
      intro h
      obtain ⟨a, rfl⟩ := hs x (h x (by simp))
      obtain ⟨l, rfl⟩ := ih fun y hy => h y (by simp [hy])
      exact ⟨a :: l, rfl⟩
  obtain ⟨l, rfl⟩ := this ds h
  exact ⟨l, rfl⟩
theorem fits_strs {d : D} (h : Sh.Fits (.sl .str) d) : ∃ l : List Str, d = strs l := fits_list _ (fun _ h => fits_str h) h
theorem fits_att {d : D} (h : Sh.Fits (.agg [.str, .sl .str]) d) : ∃ a : Att, d = att a := by
  simp only [Sh.Fits, Sh.FitsL] at h
  obtain ⟨ds, rfl, x, xs, rfl, ⟨s, rfl, _⟩, y, ys, rfl, hy, rfl⟩ := h
  obtain ⟨l, rfl⟩ := fits_strs (d := y) (by simp only [Sh.Fits]; exact hy)
  exact ⟨(s, l), rfl⟩
theorem fits_atts {d : D} (h : Sh.Fits (.sl (.agg [.str, .sl .str])) d) : ∃ l : List Att, d = atts l := fits_list _ (fun _ h => fits_att h) h

theorem bulk_map {α : Type} (g : α → D) (c : α → Nat) (h : ∀ a, (g a).bulk = c a) (l : List α) : D.bulks (l.map g) = (l.map c).sum := by
  rw [D.bulks_sum, List.map_map]
  congr 1
  exact List.map_congr_left fun a _ => h a
end Go.Proofs.Tz

/- The statements about layer 14: shapes of the arguments. -/
set_option linter.unusedVariables false
set_option linter.unusedSimpArgs false
namespace Go.Proofs.Tz
open Go.Vw

theorem fits_i64 {d : D} (h : Sh.Fits (.int .i64) d) : ∃ n : Int, d = .int .i64 n := by
  simp only [Sh.Fits] at h
  obtain ⟨n, rfl, _⟩ := h
  exact ⟨n, rfl⟩
theorem fits_ints {d : D} (h : Sh.Fits (.sl (.int .i64)) d) : ∃ l : List Int, d = ints l := fits_list _ (fun _ h => fits_i64 h) h
theorem fits_arule {d : D} (h : Sh.Fits (.agg [.bool, .str, .str, .sl (.str), .sl (.int .i64)]) d) : ∃ x : ARule, d = aruleD x := by
  simp only [Sh.Fits, Sh.FitsL] at h
  obtain ⟨ds, rfl, x, xs, rfl, ⟨al, rfl⟩, y, ys, rfl, ⟨s, rfl, _⟩, z, zs, rfl, ⟨t, rfl, _⟩, v, vs, rfl, hv, w, ws, rfl, hw, rfl⟩ := h
  obtain ⟨at_, rfl⟩ := fits_strs (by simpa only [Sh.Fits] using hv)
  obtain ⟨rg, rfl⟩ := fits_ints (by simpa only [Sh.Fits] using hw)
  exact ⟨(al, s, t, at_, rg), rfl⟩
theorem fits_arules {d : D} (h : Sh.Fits (.sl (.agg [.bool, .str, .str, .sl (.str), .sl (.int .i64)])) d) : ∃ l : List ARule, d = arules l := fits_list _ (fun _ h => fits_arule h) h
theorem fits_subj {d : D} (h : Sh.Fits (.agg [.str, .sl (.str)]) d) : ∃ x : Subj, d = subjD x := fits_att h
theorem fits_ent {d : D} (h : Sh.Fits (.agg [.str, .sl (.agg [.str, .sl (.str)])]) d) : ∃ x : Ent, d = entD x := by
  simp only [Sh.Fits, Sh.FitsL] at h
  obtain ⟨ds, rfl, x, xs, rfl, ⟨s, rfl, _⟩, y, ys, rfl, hy, rfl⟩ := h
  obtain ⟨l, rfl⟩ := fits_atts (by simp only [Sh.Fits, Sh.FitsL]; exact hy)
  exact ⟨(s, l), rfl⟩
theorem fits_case {d : D} (h : Sh.Fits (.agg [.agg [.str, .sl (.str)], .str, .str, .int .i64]) d) : ∃ x : Subj × Str × Str × Int, d = caseD x.1 x.2.1 x.2.2.1 x.2.2.2 := by
  simp only [Sh.Fits, Sh.FitsL] at h
  obtain ⟨ds, rfl, x, xs, rfl, hx, y, ys, rfl, ⟨s, rfl, _⟩, z, zs, rfl, ⟨t, rfl, _⟩, v, vs, rfl, ⟨n, rfl, _⟩, rfl⟩ := h
  obtain ⟨u, rfl⟩ := fits_subj (by simp only [Sh.Fits, Sh.FitsL]; exact hx)
  exact ⟨(u, s, t, n), rfl⟩

theorem arule_lim {r : ARule} (h : (aruleD r).lim 140737488351232) : r.2.2.2.1.length ≤ 140737488351232 := by
  simp only [aruleD, strs, ints, D.lim, D.lims] at h
  simpa using h.2.2.2.1.1
theorem arules_lim {l : List ARule} (h : (arules l).lim 140737488351232) : l.length ≤ 140737488351232 ∧ ∀ r ∈ l, r.2.2.2.1.length ≤ 140737488351232 := by
  simp only [arules, D.lim, D.lims_mem] at h
  exact ⟨by simpa using h.1, fun r hr => arule_lim (h.2 _ (List.mem_map.2 ⟨r, hr, rfl⟩))⟩
theorem subj_lim {u : Subj} (h : (subjD u).lim 140737488351232) : u.2.length ≤ 140737488351232 := by
  simp only [subjD, strs, D.lim, D.lims] at h
  simpa using h.2.1.1
theorem ent_lim {e : Ent} (h : (entD e).lim 140737488351232) : e.2.length ≤ 140737488351232 ∧ ∀ a ∈ e.2, a.2.length ≤ 140737488351232 := by
  simp only [entD, atts, D.lim, D.lims, D.lims_mem] at h
  refine ⟨by simpa using h.2.1.1, fun a ha => ?_⟩
  have := h.2.1.2 _ (List.mem_map.2 ⟨a, ha, rfl⟩)
  simp only [att, strs, D.lim, D.lims] at this
  simpa using this.2.1.1

theorem AccessViews_ok (l : List ARule) (u : Subj) (e : Ent) (hb : D.lims 140737488351232 [arules l, subjD u, entD e]) : Ctr Tryz.prog 4 [.d (arules l), .d (subjD u), .d (entD e)] (.d (.bool true)) := by
  simp only [D.lims] at hb
  exact law4 l u e (arules_lim hb.1).1 (arules_lim hb.1).2 (subj_lim hb.2.1) (ent_lim hb.2.2.1).1 (ent_lim hb.2.2.1).2
theorem AccessOrders_ok (l : List ARule) (c : Subj × Str × Str × Int) (hb : D.lims 140737488351232 [arules l, caseD c.1 c.2.1 c.2.2.1 c.2.2.2]) : Ctr Tryz.prog 6 [.d (arules l), .d (caseD c.1 c.2.1 c.2.2.1 c.2.2.2)] (.d (.bool true)) := by
  simp only [D.lims, caseD, D.lim] at hb
  exact law6 l c.1 c.2.1 c.2.2.1 c.2.2.2 (arules_lim hb.1).1 (arules_lim hb.1).2 (subj_lim hb.2.1.1)
theorem AccessLocal_ok (l : List ARule) (c : Subj × Str × Str × Int) (hb : D.lims 140737488351232 [arules l, caseD c.1 c.2.1 c.2.2.1 c.2.2.2]) : Ctr Tryz.prog 7 [.d (arules l), .d (caseD c.1 c.2.1 c.2.2.1 c.2.2.2)] (.d (.bool true)) := by
  simp only [D.lims, caseD, D.lim] at hb
  exact law7 l c.1 c.2.1 c.2.2.1 c.2.2.2 (arules_lim hb.1).1 (arules_lim hb.1).2 (subj_lim hb.2.1.1)
theorem AccessLines_ok (r : ARule) (hb : D.lims 140737488351232 [aruleD r]) : Ctr Tryz.prog 8 [.d (aruleD r)] (.d (.bool true)) := by
  simp only [D.lims] at hb
  exact law8 r (arule_lim hb.1)
end Go.Proofs.Tz

/- Access lists: a line, as the reference reads it. -/
set_option maxRecDepth 100000
set_option maxHeartbeats 4000000
set_option linter.unusedVariables false
set_option linter.unusedSimpArgs false
namespace Go.Proofs.Tz
open Go.Vw Go.RowKit Go.Proofs

theorem areadR_fn (ws : List Str) (hw : ∀ p ∈ ws, List.length p < 900000) (hwl : ws.length < 1000000) : Ctr Tryz.prog 43 [.d (strs ws)] (.tup [.d (aruleD (readRT ws).1), .d (.bool (readRT ws).2)]) := by
  refine fn_of_vwpN (rv := .cell 2 58) (rs := [.tmp 3]) (r := .d (aruleD (readRT ws).1)) (ys := [.d (.bool (readRT ws).2)]) (fun i => false) (by kernel_rfl) Tryz.func43 (by kernel_rfl) rfl rfl (by simp) (Nat.le_of_ble_eq_true rfl) (by kernel_rfl) rfl rfl ?_
  have c0 := acontains_fn ws [] hwl
  by_cases h8 : ws.length = 8
  case neg =>
    have h8' : ¬ (ws.length : Int) = 8 := by omega
    rw [readRT_len h8]
    simp -implicitDefEqProofs [strs, h8', aruleD, ints]
  obtain ⟨a, b, c, d, e, f, g, h, rfl⟩ := len8 h8
  have lb := hw b (by simp)
  have ld := hw d (by simp)
  have lf := hw f (by simp)
  have lh := hw h (by simp)
  simp only [strs, List.map_cons, List.map_nil] at c0
  have c2 := unescapeR_fn b (by omega)
  have c3 := unescapeR_fn d (by omega)
  have c4 := rightsR_fn h lh
  have c5 := cut07_fn f 44 (by omega)
  simp only [ints, strs] at c4 c5
  clear hw h8 hwl
  simp only [readRT]
  by_cases hm : ([] : Str) ∈ [a, b, c, d, e, f, g, h]
  · rw [if_neg (fun q => q.2.2.2.2 hm)]
    rw [decide_eq_true hm] at c0
    simp -implicitDefEqProofs [strs]
    refine callK c0 ?_
    simp -implicitDefEqProofs [aruleD, strs, ints]
  rw [decide_eq_false hm] at c0
  by_cases h0 : a = allowW ∨ a = denyW
  case neg =>
    rw [if_neg (fun q => h0 q.1)]
    simp only [not_or] at h0
    obtain ⟨h01, h02⟩ := h0
    simp -implicitDefEqProofs [strs]
    refine callK c0 ?_
    simp -implicitDefEqProofs [h01, h02, aruleD, strs, ints]
  by_cases hc : c = onW
  case neg =>
    rw [if_neg (fun q => hc q.2.1)]
    have hc' : ¬ c = [111, 110] := hc
    rcases h0 with h0 | h0
    · simp -implicitDefEqProofs [strs]
      refine callK c0 ?_
      simp -implicitDefEqProofs [h0, hc', aruleD, strs, ints]
    · simp -implicitDefEqProofs [strs]
      refine callK c0 ?_
      simp -implicitDefEqProofs [h0, hc', aruleD, strs, ints]
  by_cases he : e = attrsW
  case neg =>
    rw [if_neg (fun q => he q.2.2.1)]
    have he' : ¬ e = [97, 116, 116, 114, 115] := he
    rcases h0 with h0 | h0
    · simp -implicitDefEqProofs [strs]
      refine callK c0 ?_
      simp -implicitDefEqProofs [h0, hc, he', aruleD, strs, ints]
    · simp -implicitDefEqProofs [strs]
      refine callK c0 ?_
      simp -implicitDefEqProofs [h0, hc, he', aruleD, strs, ints]
  by_cases hg : g = rightsW
  case neg =>
    rw [if_neg (fun q => hg q.2.2.2.1)]
    have hg' : ¬ g = [114, 105, 103, 104, 116, 115] := hg
    rcases h0 with h0 | h0
    · simp -implicitDefEqProofs [strs]
      refine callK c0 ?_
      simp -implicitDefEqProofs [h0, hc, he, hg', aruleD, strs, ints]
    · simp -implicitDefEqProofs [strs]
      refine callK c0 ?_
      simp -implicitDefEqProofs [h0, hc, he, hg', aruleD, strs, ints]
  rw [if_pos ⟨h0, hc, he, hg, hm⟩]
  clear hm
  subst hc he hg
  generalize unescP b = B at *
  generalize unescP d = D' at *
  generalize optI (rightsL (splitB 44 h)) = H at *
  obtain ⟨bx, be⟩ := B
  obtain ⟨dx, de⟩ := D'
  obtain ⟨hz, hb⟩ := H
  simp only at c2 c3 c4
  by_cases hd45 : d = [45] <;> by_cases hf45 : f = [45] <;> by_cases hh45 : h = [45]
  all_goals
    by_cases hbe : be = 0
    · by_cases hde : de = 0
      all_goals
        rcases h0 with rfl | rfl
        all_goals
          simp -implicitDefEqProofs [strs]
          refine callK c0 ?_
          simp -implicitDefEqProofs
          refine callK c2 ?_
          simp -implicitDefEqProofs
          refine callK c3 ?_
          simp -implicitDefEqProofs
          refine callK c4 ?_
          first
            | (simp -implicitDefEqProofs [hd45, hf45, hh45, hbe, hde, aruleD, strs, ints]; done)
            | (simp -implicitDefEqProofs [hd45, hf45, hh45, hbe, hde, aruleD, strs, ints]
               refine callK c5 ?_
               simp -implicitDefEqProofs [hd45, hf45, hh45, hbe, hde])
    · rcases h0 with rfl | rfl
      all_goals
        simp -implicitDefEqProofs [strs]
        refine callK c0 ?_
        simp -implicitDefEqProofs
        refine callK c2 ?_
        simp -implicitDefEqProofs
        refine callK c3 ?_
        simp -implicitDefEqProofs
        refine callK c4 ?_
        first
          | (simp -implicitDefEqProofs [hd45, hf45, hh45, hbe, aruleD, strs, ints]; done)
          | (simp -implicitDefEqProofs [hd45, hf45, hh45, hbe, aruleD, strs, ints]
             refine callK c5 ?_
             simp -implicitDefEqProofs [hd45, hf45, hh45, hbe])
end Go.Proofs.Tz

/- Access lists: equal lists. -/
set_option maxRecDepth 100000
set_option maxHeartbeats 4000000
set_option linter.unusedVariables false
set_option linter.unusedSimpArgs false
namespace Go.Proofs.Tz
open Go.Vw Go.RowKit Go.Proofs

/-! ### equal lists -/
noncomputable def sameB (l m : List ARule) : Bool := @decide (l = m) (Classical.propDecidable _)
theorem sameB_no {l m : List ARule} (h : l ≠ m) : sameB l m = false := by simp [sameB, h]
theorem sameB_self (l : List ARule) : sameB l l = true := by simp [sameB]
theorem sameB_iff {l m : List ARule} : sameB l m = true ↔ l = m := by simp [sameB]
theorem sameAR_fn (l m : List ARule) (hl : FitARs l) (hm : FitARs m) : Ctr Tryz.prog 17 [.d (arules l), .d (arules m)] (.d (.bool (sameB l m))) := by
  refine fn_of_vwp (fun i => i == 9000006) (by kernel_rfl) Tryz.func17 (by kernel_rfl) rfl rfl (Nat.le_of_ble_eq_true rfl) (by kernel_rfl) rfl rfl ?_
  have hl1 := hl.1
  have hm1 := hm.1
  by_cases hlm : l.length = m.length
  case neg =>
    have hlm' : ¬ (l.length : Int) = m.length := by omega
    rw [sameB_no (fun e => hlm (by rw [e]))]
    simp -implicitDefEqProofs [arules, hlm']
  simp -implicitDefEqProofs [arules, hlm]
  refine loopN m.length (fun k τ => τ 0 = .d (arules l) ∧ τ 1 = .d (arules m) ∧ τ 5 = .d (.int .i64 k) ∧ l.take k = m.take k) (by simp [arules]) ?_
  rintro k τ hk ⟨h0, h1, h5, ht⟩
  by_cases hlt : k < m.length
  case neg =>
    simp -implicitDefEqProofs [h0, h1, h5, arules, hlm, hlt]
    rw [List.take_of_length_le (by omega), List.take_of_length_le (by omega)] at ht
    subst ht
    rw [sameB_self]
    first | done | (refine ⟨by omega, ?_⟩; simp) | trace_state
  have hlt' : k < l.length := by omega
  have e1 := take_s hlt
  have e2 := take_s hlt'
  have hne : l[k] ≠ m[k] → l ≠ m := by rintro h rfl; exact h rfl
  have fl := hl.2 _ (List.getElem_mem hlt')
  have fm := hm.2 _ (List.getElem_mem hlt)
  generalize hx : l[k] = x at *
  generalize hy : m[k] = y at *
  have c1 := lists07_fn x.2.2.2.1 y.2.2.2.1 fl.attrs fm.attrs
  have r1 := fl.rights
  have r2 := fm.rights
  obtain ⟨a1, a2, a3, a4, a5⟩ := x
  obtain ⟨b1, b2, b3, b4, b5⟩ := y
  simp only [strs] at c1 r1 r2
  have hnD : ∀ (q : (a1, a2, a3, a4, a5) ≠ (b1, b2, b3, b4, b5)), sameB l m = false := fun q => sameB_no (hne q)
  by_cases q1 : a1 = b1
  case neg =>
    rw [hnD (fun e => q1 (congrArg (·.1) e))]
    have hb : (a1 == b1) = false := by simpa using q1
    simp -implicitDefEqProofs [h0, h1, h5, arules, hlm, hlt, hlt', hx, hy, aruleD, strs, ints, hb]
  subst q1
  by_cases q2 : a2 = b2
  case neg =>
    rw [hnD (fun e => q2 (congrArg (·.2.1) e))]
    simp -implicitDefEqProofs [h0, h1, h5, arules, hlm, hlt, hlt', hx, hy, aruleD, strs, ints, q2]
  subst q2
  by_cases q3 : a3 = b3
  case neg =>
    rw [hnD (fun e => q3 (congrArg (·.2.2.1) e))]
    simp -implicitDefEqProofs [h0, h1, h5, arules, hlm, hlt, hlt', hx, hy, aruleD, strs, ints, q3]
  subst q3
  by_cases q4 : a4 = b4
  case neg =>
    rw [hnD (fun e => q4 (congrArg (·.2.2.2.1) e))]
    rw [decide_eq_false q4] at c1
    simp -implicitDefEqProofs [h0, h1, h5, arules, hlm, hlt, hlt', hx, hy, aruleD, strs, ints]
    refine callK c1 ?_
    simp -implicitDefEqProofs
  subst q4
  rw [decide_eq_true rfl] at c1
  by_cases q5 : a5.length = b5.length
  case neg =>
    rw [hnD (fun e => q5 (by have := congrArg (·.2.2.2.2.length) e; simpa using this))]
    have q5' : ¬ (a5.length : Int) = b5.length := by omega
    simp -implicitDefEqProofs [h0, h1, h5, arules, hlm, hlt, hlt', hx, hy, aruleD, strs, ints]
    refine callK c1 ?_
    simp -implicitDefEqProofs [q5']
  obtain ⟨B, hB⟩ : ∃ B, sameB l m = B := ⟨_, rfl⟩
  rw [hB] at hnD
  rw [hB]
  simp -implicitDefEqProofs [h0, h1, h5, arules, hlm, hlt, hlt', hx, hy, aruleD, strs, ints]
  refine callK c1 ?_
  simp -implicitDefEqProofs [q5, h0, h1, h5]
  refine loopN b5.length (fun i τ => τ 0 = .d (arules l) ∧ τ 1 = .d (arules m) ∧ τ 5 = .d (.int .i64 k) ∧ τ 6 = .box (.agg [.bool a1, .str a2, .str a3, .sl (a4.map .str), .sl (a5.map (.int .i64))]) ∧ τ 7 = .box (.agg [.bool a1, .str a2, .str a3, .sl (a4.map .str), .sl (b5.map (.int .i64))]) ∧ τ 8 = .d (.int .i64 i) ∧ a5.take i = b5.take i) ⟨by simp [h0, arules], by simp [h1, arules], by simp [h5], by simp, by simp, by simp, by simp⟩ ?_
  clear h0 h1 h5 τ
  rintro i τ hi ⟨h0, h1, h5, h6, h7, h8, ht5⟩
  by_cases hil : i < b5.length
  · have hil2 : i < a5.length := by omega
    by_cases he : a5[i] = b5[i]
    · simp -implicitDefEqProofs [h0, h1, h5, h6, h7, h8, q5, hil, hil2, he]
      repeat refine And.intro (by omega) ?_
      refine again hil ⟨by simp [h0], by simp [h1], by simp [h5], by simp [h6], by simp [h7], by simp, ?_⟩
      rw [take_s hil, take_s hil2, ht5, he]
    · rw [hnD (fun e => he (by
        have e3 : a5 = b5 := congrArg (·.2.2.2.2) e
        subst e3; rfl))]
      simp -implicitDefEqProofs [h0, h1, h5, h6, h7, h8, q5, hil, hil2, he]
  · rw [List.take_of_length_le (by omega), List.take_of_length_le (by omega)] at ht5
    subst ht5
    simp -implicitDefEqProofs [h0, h1, h5, h6, h7, h8, hil]
    repeat refine And.intro (by omega) ?_
    refine again hlt ⟨by simp [h0, arules], by simp [h1, arules], by simp, ?_⟩
    rw [e1, e2, ht]
end Go.Proofs.Tz

/- Access lists: Parse of the reference. -/
set_option maxRecDepth 100000
set_option maxHeartbeats 4000000
set_option linter.unusedVariables false
set_option linter.unusedSimpArgs false
namespace Go.Proofs.Tz
open Go.Vw Go.RowKit Go.Proofs

theorem splitB_pure (c : UInt8) : ∀ (s : Str), ∀ p ∈ splitB c s, c ∉ p
  | [], p, hp => by simp [splitB] at hp; subst hp; simp
  | x :: s, p, hp => by
    have ih := splitB_pure c s
    simp only [splitB] at hp
    split at hp
    · rcases List.mem_cons.1 hp with rfl | hp
      · simp
      · exact ih p hp
    · rename_i hx
      cases hs : splitB c s with
      | nil => exact absurd hs (splitB_ne c s)
      | cons q qs =>
        rw [hs] at hp ih
        simp only at hp
        rcases List.mem_cons.1 hp with rfl | hp
        · have := ih q (by simp)
          rw [List.mem_cons, not_or]
          exact ⟨fun e => hx e.symm, this⟩
        · exact ih p (by simp [hp])
theorem joinB_cons2 {c : UInt8} {p : Str} {l : List Str} (h : l ≠ []) : joinB c (p :: l) = p ++ c :: joinB c l := by
  cases l with
  | nil => exact absurd rfl h
  | cons q l => rfl

def AparRI (s : Str) (L : List Str) (k : Nat) (τ : St) : Prop := τ 5 = .d (strs L) ∧ τ 7 = .d (.int .i64 k) ∧ ∃ out : List ARule, τ 6 = .own false 58 (out.map aruleD) ∧ out.length ≤ k ∧
  (k < L.length → parseA s = pGo readA checkAR (joinB 10 (L.drop k)) out ∧ out.length = k ∧ out.length ≤ 64 ∧ FitARs out) ∧ (k = L.length → parseA s = (out, 0, 0))
theorem aparseR_fn (s : Str) (hs : List.length s < 1000000) : Ctr Tryz.prog 14 [.d (.str s)] (.tup [.d (arules (parseA s).1), .d (.int .i64 (parseA s).2.1), .d (.int .i64 (parseA s).2.2)]) := by
  refine fn_of_vwpN (rv := .tmp 2) (rs := [.tmp 3, .tmp 4]) (r := .d (arules (parseA s).1)) (ys := [.d (.int .i64 (parseA s).2.1), .d (.int .i64 (parseA s).2.2)]) (fun _ => false) (by kernel_rfl) Tryz.func14 (by kernel_rfl) rfl rfl (by simp) (Nat.le_of_ble_eq_true rfl) (by kernel_rfl) rfl rfl ?_
  by_cases h4 : 4096 < s.length
  · have h4' : (4096 : Int) < s.length := by omega
    simp -implicitDefEqProofs [h4', parseA, h4, arules]
  have h4' : ¬ (4096 : Int) < s.length := by omega
  have c0 := cut07_fn s 10 hs
  have hp0 : parseA s = pGo readA checkAR s [] := by rw [parseA, if_neg h4]
  have hjs : joinB 10 (splitB 10 s) = s := joinB_split 10 s
  have hle := splitB_le 10 s
  have hno := splitB_pure 10 s
  have hne := splitB_ne 10 s
  have hlen := splitB_len 10 s
  have hcnt : s.count 10 ≤ s.length := List.count_le_length
  generalize splitB 10 s = L at *
  have hL0 : 0 < L.length := List.length_pos_iff.2 hne
  simp only [u8, strs] at c0
  simp -implicitDefEqProofs [h4']
  refine callK c0 ?_
  simp -implicitDefEqProofs
  refine loopN L.length (AparRI s L) ?_ ?_
  · exact ⟨by simp [strs], by simp, [], by simp, by simp, fun _ => ⟨by rw [hp0, List.drop_zero, hjs], by simp, by simp, by simp, by simp⟩, fun h => by omega⟩
  rintro k τ hk ⟨h5, h7, out, h6, hok, hA, hB⟩
  by_cases hlt : k < L.length
  case neg =>
    have hkL : k = L.length := by omega
    have hlt' : ¬ (k : Int) < L.length := by omega
    rw [hB hkL]
    simp -implicitDefEqProofs [h5, h6, h7, hlt', strs, arules]
  have hlt' : (k : Int) < L.length := by omega
  obtain ⟨hP, hol, ho64, hfit⟩ := hA hlt
  have hwl := hle _ (List.getElem_mem hlt)
  have hwn := hno _ (List.getElem_mem hlt)
  have hdr := List.drop_eq_getElem_cons hlt
  generalize hw : L[k] = w at *
  have c1 := cut07_fn w 32 (by omega)
  have hw2 := splitB_le 32 w
  have hw3 := splitB_len 32 w
  have hw4 : w.count 32 ≤ w.length := List.count_le_length
  have c2 := areadR_fn (splitB 32 w) (fun p hp => by have := hw2 p hp; omega) (by omega)
  have hT := readRT_eq (splitB 32 w)
  rw [show ruleOf (splitB 32 w) = readA w from rfl] at hT
  have hwfit : ∀ r, readA w = some r → FitAR r := fun r hr => readA_fit hr (by omega)
  simp only [u8, strs] at c1 c2
  by_cases hlast : k + 1 = L.length
  · have hlast' : (k : Int) + 1 = L.length := by omega
    have hd1 : L.drop (k + 1) = [] := List.drop_eq_nil_of_le (by omega)
    rw [hd1] at hdr
    rw [hdr, show joinB 10 [w] = w from rfl] at hP
    by_cases hwe : w = []
    · subst hwe
      rw [pGo_nil] at hP
      simp -implicitDefEqProofs [h5, h6, h7, strs, hlt, hlt', hlast', hw]
      repeat refine And.intro (by omega) ?_
      refine again hlt ⟨by simp [h5, strs], by simp; omega, out, by simp [h6], by omega, fun h => by omega, fun _ => hP⟩
    · rw [pGo_no readA checkAR out hwe ((ixB_neg w 10).2 hwn)] at hP
      rw [hP]
      generalize readRT (splitB 32 w) = T at *
      obtain ⟨⟨al, su, ta, at_, ri⟩, b⟩ := T
      simp only [aruleD, strs, ints] at c2
      simp -implicitDefEqProofs [h5, h6, h7, strs, hlt, hlt', hlast', hw, hwe]
      repeat refine And.intro (by omega) ?_
      refine callK c1 ?_
      simp -implicitDefEqProofs
      refine callK c2 ?_
      cases b <;> simp -implicitDefEqProofs [h5, h6, h7, strs, hlast', hol, arules] <;> omega
  · have hlast' : ¬ (k : Int) + 1 = L.length := by omega
    have hd1 : L.drop (k + 1) ≠ [] := fun e => by have := congrArg List.length e; simp at this; omega
    rw [hdr, joinB_cons2 hd1] at hP
    rw [pGo_at readA checkAR out (ixB_mid hwn)] at hP
    rw [List.take_left' rfl, show (w ++ 10 :: joinB 10 (L.drop (k + 1))).drop (List.length w + 1) = joinB 10 (L.drop (k + 1)) by rw [List.drop_append]; simp] at hP
    cases hr : readA w with
    | none =>
      rw [hr] at hP hT
      simp only at hP hT
      rw [hP]
      generalize readRT (splitB 32 w) = T at *
      obtain ⟨⟨al, su, ta, at_, ri⟩, b⟩ := T
      simp only at hT
      subst hT
      simp only [aruleD, strs, ints] at c2
      simp -implicitDefEqProofs [h5, h6, h7, strs, hlt, hlt', hlast', hw]
      repeat refine And.intro (by omega) ?_
      refine callK c1 ?_
      simp -implicitDefEqProofs
      refine callK c2 ?_
      simp -implicitDefEqProofs [h5, h6, h7, strs, hlast', hol, arules]
      first | done | omega | (refine ⟨by omega, ?_⟩; simp) | trace_state
    | some r =>
      rw [hr] at hP hT
      simp only at hP hT
      rw [hT] at c2
      have hfr := hwfit r hr
      have hfit2 := hfit.snoc ho64 hfr
      have c3 := checkARR_fn (out ++ [r]) hfit2
      obtain ⟨al, su, ta, at_, ri⟩ := r
      simp only [arules, aruleD, strs, ints, List.map_append, List.map_cons, List.map_nil] at c2 c3
      have eD : (fun r : ARule => D.agg [.bool r.1, .str r.2.1, .str r.2.2.1, .sl (r.2.2.2.1.map .str), .sl (r.2.2.2.2.map (.int .i64))]) = aruleD := rfl
      by_cases hc : checkAR (out ++ [(al, su, ta, at_, ri)]) = 0
      · simp -implicitDefEqProofs [h5, h6, h7, strs, hlt, hlt', hlast', hw]
        repeat refine And.intro (by omega) ?_
        refine callK c1 ?_
        simp -implicitDefEqProofs
        refine callK c2 ?_
        simp -implicitDefEqProofs [h5, h6, h7, strs, hlast']
        repeat refine And.intro (by omega) ?_
        refine callK c3 ?_
        simp -implicitDefEqProofs [h5, h6, h7, hc]
        repeat refine And.intro (by omega) ?_
        refine again hlt ⟨by simp [h5, strs], by simp, out ++ [(al, su, ta, at_, ri)], by simp [aruleD, strs, ints], by simp; omega, fun h => ⟨by rw [hP]; simp [hc], by simp; omega, checkAR_le hc, hfit2⟩, fun h => by omega⟩
      · simp -implicitDefEqProofs [h5, h6, h7, strs, hlt, hlt', hlast', hw]
        repeat refine And.intro (by omega) ?_
        refine callK c1 ?_
        simp -implicitDefEqProofs
        refine callK c2 ?_
        simp -implicitDefEqProofs [h5, h6, h7, strs, hlast']
        repeat refine And.intro (by omega) ?_
        refine callK c3 ?_
        rw [hP]
        simp -implicitDefEqProofs [h5, h6, h7, hc, hol, arules]
        try omega
end Go.Proofs.Tz

/- The statements about layer 14: AccessChecks, AccessReturns. -/
set_option maxRecDepth 100000
set_option maxHeartbeats 8000000
set_option linter.unusedVariables false
set_option linter.unusedSimpArgs false
namespace Go.Proofs.Tz
open Go.Vw Go.RowKit Go.Proofs

theorem pGo_fit : ∀ (n : Nat) (s : Str) (out : List ARule), s.length ≤ n → s.length ≤ 4096 → out.length ≤ 64 → FitARs out → FitARs (pGo readA checkAR s out).1 := by
  intro n
  have f0 : FitARs [] := ⟨by simp, by simp⟩
  induction n with
  | zero =>
    intro s out hs _ _ hf
    obtain rfl : s = [] := List.length_eq_zero_iff.1 (by omega)
    rw [pGo_nil]; exact hf
  | succ n ih =>
    intro s out hs h4 ho hf
    by_cases hnil : s = []
    · subst hnil; rw [pGo_nil]; exact hf
    by_cases hix : 0 ≤ ixB s 10
    · obtain ⟨k, hk⟩ := Int.eq_ofNat_of_zero_le hix
      rw [pGo_at readA checkAR out hk]
      split
      · exact f0
      · rename_i r hr
        split
        · rename_i hc
          exact ih _ _ (by simp; omega) (by simp; omega) (checkAR_le hc) (hf.snoc ho (readA_fit hr (by simp; omega)))
        · exact f0
    · rw [pGo_no readA checkAR out hnil (by omega)]; exact f0
theorem parseA_fit (s : Str) : FitARs (parseA s).1 := by
  unfold parseA
  split
  · exact ⟨by simp, by simp⟩
  · exact pGo_fit _ s [] (Nat.le_refl _) (by omega) (by simp) ⟨by simp, by simp⟩

theorem law3 (l : List ARule) (s : Str) (b1 : l.length ≤ 140737488351232) (b2 : ∀ r ∈ l, r.2.2.2.1.length ≤ 140737488351232) : Ctr Tryz.prog 3 [.d (arules l), .d (.str s)] (.d (.bool true)) := by
  refine fn_of_vwp (fun _ => false) (by kernel_rfl) Tryz.func3 (by kernel_rfl) rfl rfl (Nat.le_of_ble_eq_true rfl) (by kernel_rfl) rfl rfl ?_
  have c1 := few_fn l b1 b2
  have hA := alive_fn
  by_cases h1 : fewAB l = true
  case neg =>
    rw [show fewAB l = false by simpa using h1] at c1
    simp only [arules] at c1
    simp -implicitDefEqProofs [arules]
    refine callK c1 ?_
    simp -implicitDefEqProofs
    refine callK hA ?_
    simp -implicitDefEqProofs
  have fl := few_fit h1
  rw [h1] at c1
  have alv : 600 < List.length s → List.length s ≤ 4096 ∨ 5000 < List.length s → Ctr Tryz.prog 9 [.d (arules l)] (.d (.bool true)) := fun _ _ => c1
  simp only [arules] at c1
  by_cases h2 : (600 : Int) < List.length s
  · by_cases h3 : (List.length s : Int) ≤ 4096
    · simp -implicitDefEqProofs [arules]
      refine callK c1 ?_
      simp -implicitDefEqProofs [h2, h3]
      refine callK hA ?_
      simp -implicitDefEqProofs
    by_cases h4 : (5000 : Int) < List.length s
    · simp -implicitDefEqProofs [arules]
      refine callK c1 ?_
      simp -implicitDefEqProofs [h2, h3, h4]
      refine callK hA ?_
      simp -implicitDefEqProofs
    have c2 := atext_fn l fl
    have c3 := atextR_fn l fl
    have c4 := aparse_fn s (by omega)
    have c5 := aparseR_fn s (by omega)
    have c6 := checkAR_fn l fl
    have c7 := checkARR_fn l fl
    have c8 := sameAR_fn _ _ (parseA_fit s) (parseA_fit s)
    rw [sameB_self] at c8
    generalize textA l = T at *
    generalize parseA s = U at *
    generalize checkAR l = E at *
    obtain ⟨t, e⟩ := T
    obtain ⟨m, i, g⟩ := U
    simp only [arules] at c2 c3 c4 c5 c6 c7 c8
    simp -implicitDefEqProofs [arules]
    refine callK c1 ?_
    simp -implicitDefEqProofs [h2, h3, h4]
    refine callK c2 ?_
    simp -implicitDefEqProofs
    refine callK c3 ?_
    simp -implicitDefEqProofs
    refine callK c4 ?_
    simp -implicitDefEqProofs
    refine callK c5 ?_
    simp -implicitDefEqProofs
    refine callK c6 ?_
    simp -implicitDefEqProofs
    refine callK c7 ?_
    simp -implicitDefEqProofs
    refine callK c8 ?_
    simp -implicitDefEqProofs
    refine callK hA ?_
    simp -implicitDefEqProofs
  · have h4 : ¬ (5000 : Int) < List.length s := by omega
    have c2 := atext_fn l fl
    have c3 := atextR_fn l fl
    have c4 := aparse_fn s (by omega)
    have c5 := aparseR_fn s (by omega)
    have c6 := checkAR_fn l fl
    have c7 := checkARR_fn l fl
    have c8 := sameAR_fn _ _ (parseA_fit s) (parseA_fit s)
    rw [sameB_self] at c8
    generalize textA l = T at *
    generalize parseA s = U at *
    generalize checkAR l = E at *
    obtain ⟨t, e⟩ := T
    obtain ⟨m, i, g⟩ := U
    simp only [arules] at c2 c3 c4 c5 c6 c7 c8
    simp -implicitDefEqProofs [arules]
    refine callK c1 ?_
    simp -implicitDefEqProofs [h2, h4]
    refine callK c2 ?_
    simp -implicitDefEqProofs
    refine callK c3 ?_
    simp -implicitDefEqProofs
    refine callK c4 ?_
    simp -implicitDefEqProofs
    refine callK c5 ?_
    simp -implicitDefEqProofs
    refine callK c6 ?_
    simp -implicitDefEqProofs
    refine callK c7 ?_
    simp -implicitDefEqProofs
    refine callK c8 ?_
    simp -implicitDefEqProofs
    refine callK hA ?_
    simp -implicitDefEqProofs

theorem textA_len (l : List ARule) : List.length (textA l).1 ≤ 4096 := by
  unfold textA
  split
  · split
    · simp
    · simp only; omega
  · simp

theorem law5 (l : List ARule) (s : Str) (b1 : l.length ≤ 140737488351232) (b2 : ∀ r ∈ l, r.2.2.2.1.length ≤ 140737488351232) : Ctr Tryz.prog 5 [.d (arules l), .d (.str s)] (.d (.bool true)) := by
  refine fn_of_vwp (fun _ => false) (by kernel_rfl) Tryz.func5 (by kernel_rfl) rfl rfl (Nat.le_of_ble_eq_true rfl) (by kernel_rfl) rfl rfl ?_
  have c1 := few_fn l b1 b2
  have hA := alive_fn
  by_cases h1 : fewAB l = true
  case neg =>
    rw [show fewAB l = false by simpa using h1] at c1
    simp only [arules] at c1
    simp -implicitDefEqProofs [arules]
    refine callK c1 ?_
    simp -implicitDefEqProofs
    refine callK hA ?_
    simp -implicitDefEqProofs
  have fl := few_fit h1
  rw [h1] at c1
  by_cases h2 : (600 : Int) < List.length s
  · simp only [arules] at c1
    simp -implicitDefEqProofs [arules]
    refine callK c1 ?_
    simp -implicitDefEqProofs [h2]
    refine callK hA ?_
    simp -implicitDefEqProofs
  have c2 := atext_fn l fl
  have tl := textA_len l
  have c3 := aparse_fn (textA l).1 (by omega)
  have c4 := aparse_fn s (by omega)
  have c5 := atext_fn _ (parseA_fit s)
  have c6 := sameAR_fn l l fl fl
  rw [sameB_self] at c6
  have q1 : ∀ t, textA l = (t, 0) → parseA t = (l, 0, 0) := fun t => backA1
  have q2 : ∀ x k, parseA s = (x, k, 0) → textA x = (s, 0) ∧ k = 0 := fun x k => backA2
  have q3 := backA3 (s := s)
  generalize textA l = T at *
  obtain ⟨t, e⟩ := T
  simp only at c3
  have q1' : e = 0 → parseA t = (l, 0, 0) := fun h => q1 t (by rw [h])
  generalize parseA t = V at *
  generalize parseA s = U at *
  obtain ⟨m, i, g⟩ := U
  have q2' : g = 0 → textA m = (s, 0) := fun h => (q2 m i (by rw [h])).1
  simp only at q3 c5
  generalize textA m = W at *
  clear q1 q2
  by_cases he : e = 0 <;> by_cases hg : g = 0
  all_goals
    first
      | rw [q1' he] at c3
      | skip
    first
      | rw [q2' hg] at c5
      | rw [q3 hg] at c4
    simp only [arules] at c1 c2 c3 c4 c5 c6
    simp -implicitDefEqProofs [arules]
    refine callK c1 ?_
    simp -implicitDefEqProofs [h2]
    refine callK c2 ?_
    simp -implicitDefEqProofs [he]
    first
      | (refine callK c3 ?_
         simp -implicitDefEqProofs
         refine callK c6 ?_
         simp -implicitDefEqProofs
         refine callK c4 ?_)
      | refine callK c4 ?_
    simp -implicitDefEqProofs [hg]
    first
      | (refine callK hA ?_
         simp -implicitDefEqProofs
         done)
      | (refine callK c5 ?_
         simp -implicitDefEqProofs
         refine callK hA ?_
         simp -implicitDefEqProofs)

theorem AccessChecks_ok (l : List ARule) (s : Str) (hb : D.lims 140737488351232 [arules l, .str s]) : Ctr Tryz.prog 3 [.d (arules l), .d (.str s)] (.d (.bool true)) := by
  simp only [D.lims] at hb
  exact law3 l s (arules_lim hb.1).1 (arules_lim hb.1).2
theorem AccessReturns_ok (l : List ARule) (s : Str) (hb : D.lims 140737488351232 [arules l, .str s]) : Ctr Tryz.prog 5 [.d (arules l), .d (.str s)] (.d (.bool true)) := by
  simp only [D.lims] at hb
  exact law5 l s (arules_lim hb.1).1 (arules_lim hb.1).2
end Go.Proofs.Tz
