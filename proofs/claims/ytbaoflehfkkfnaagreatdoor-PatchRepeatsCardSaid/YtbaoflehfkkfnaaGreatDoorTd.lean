/-
  What the functions that the statements about layer 46 (patch, repeats) reach compute, part 4 of 4: contracts and plain laws, for lists and strings of bounded size (each theorem states its bound).
-/
import Derived.Test.YtbaoflehfkkfnaaGreatDoorTa
import Derived.Test.YtbaoflehfkkfnaaGreatDoorWc
import Derived.Test.YtbaoflehfkkfnaaGreatDoorTc

set_option linter.unusedSimpArgs false
set_option linter.unusedVariables false

namespace Go.Proofs.Tz
open Go.Vw
set_option linter.unusedSimpArgs false

theorem fits_str {d : D} (h : Sh.Fits .str d) : ∃ s : Str, d = .str s := by
  simp only [Sh.Fits] at h
  obtain ⟨s, rfl, _⟩ := h
  exact ⟨s, rfl⟩
theorem fits_list {α : Type} {s : Sh} (g : α → D) (hs : ∀ d, Sh.Fits s d → ∃ a, d = g a) {d : D} (h : Sh.Fits (.sl s) d) : ∃ l : List α, d = .sl (l.map g) := by
  simp only [Sh.Fits] at h
  obtain ⟨ds, rfl, _, h⟩ := h
  have : ∀ ds : List D, (∀ x ∈ ds, Sh.Fits s x) → ∃ l : List α, ds = l.map g := by
    intro ds
    induction ds with
    | nil => intro _; exact ⟨[], rfl⟩
    | cons x ds ih =>
      intro h
      obtain ⟨a, rfl⟩ := hs x (h x (by simp))
      obtain ⟨l, rfl⟩ := ih fun y hy => h y (by simp [hy])
      exact ⟨a :: l, rfl⟩
  obtain ⟨l, rfl⟩ := this ds h
  exact ⟨l, rfl⟩
theorem fits_strs {d : D} (h : Sh.Fits (.sl .str) d) : ∃ l : List Str, d = strs l := fits_list _ (fun _ h => fits_str h) h
theorem fits_att {d : D} (h : Sh.Fits (.agg [.str, .sl .str]) d) : ∃ a : Att, d = att a := by
  simp only [Sh.Fits, Sh.FitsL] at h
  obtain ⟨ds, rfl, x, xs, rfl, ⟨s, rfl, _⟩, y, ys, rfl, hy, rfl⟩ := h
  obtain ⟨l, rfl⟩ := fits_strs (d := y) (by simp only [Sh.Fits]; exact hy)
  exact ⟨(s, l), rfl⟩
theorem fits_atts {d : D} (h : Sh.Fits (.sl (.agg [.str, .sl .str])) d) : ∃ l : List Att, d = atts l := fits_list _ (fun _ h => fits_att h) h

end Go.Proofs.Tz

/- The statements about layer 46, for arguments of bounded size. -/
set_option maxRecDepth 100000
set_option maxHeartbeats 8000000
set_option linter.unusedVariables false
set_option linter.unusedSimpArgs false
namespace Go.Proofs.Tz
open Go.Vw Go.RowKit Go.Proofs

theorem lightV_spec {vs : List Str} (h : lightV vs = true) : vs.length ≤ 20 ∧ ∀ v ∈ vs, List.length v ≤ 300 := by
  simp only [lightV, shortV, Bool.and_eq_true, decide_eq_true_eq, List.all_eq_true] at h
  exact h
theorem lightP_spec {m : Nat} {l : List POp} (h : lightP m l = true) : l.length ≤ m ∧ ∀ x ∈ l, List.length x.1 ≤ 300 ∧ List.length x.2.1 ≤ 400 ∧ x.2.2.length ≤ 20 ∧ ∀ v ∈ x.2.2, List.length v ≤ 300 := by
  simp only [lightP, Bool.and_eq_true, decide_eq_true_eq, List.all_eq_true] at h
  refine ⟨h.1, fun x hx => ?_⟩
  have := h.2 x hx
  simp only [lightO, Bool.and_eq_true, decide_eq_true_eq] at this
  exact ⟨this.1, this.2.1, (lightV_spec this.2.2).1, (lightV_spec this.2.2).2⟩
theorem lightP_fit {m : Nat} {l : List POp} (hm : m ≤ 100) (h : lightP m l = true) : FitP l := by
  obtain ⟨h1, h2⟩ := lightP_spec h
  exact ⟨by omega, fun x hx => by
    obtain ⟨a, b, c, d⟩ := h2 x hx
    exact ⟨by omega, by omega, by omega, fun v hv => by have := d v hv; omega⟩⟩
theorem lightA_fit {m : Nat} {a : List Att} (hm : m ≤ 100) (h : lightA m a = true) : Fit2 a ∧ FitV a := by
  simp only [lightA, Bool.and_eq_true, decide_eq_true_eq, List.all_eq_true] at h
  obtain ⟨h1, h2⟩ := h
  have h3 : ∀ x ∈ a, List.length x.1 ≤ 300 ∧ x.2.length ≤ 20 ∧ ∀ v ∈ x.2, List.length v ≤ 300 := fun x hx => by
    have := h2 x hx
    simp only [lightT, Bool.and_eq_true, decide_eq_true_eq] at this
    exact ⟨this.1, (lightV_spec this.2).1, (lightV_spec this.2).2⟩
  have ht := total_len (m := 20) (fun x hx => (h3 x hx).2.1)
  have : a.length * 20 ≤ 100 * 20 := Nat.mul_le_mul_right _ (by omega)
  exact ⟨⟨⟨by omega, fun x hx => by have := h3 x hx; omega⟩, by omega⟩, fun x hx v hv => by have := (h3 x hx).2.2 v hv; omega⟩
theorem FitP.app {l m : List POp} (h1 : FitP l) (h2 : FitP m) (h : l.length + m.length < 1000) : FitP (l ++ m) :=
  ⟨by simp; omega, fun x hx => by
    rcases List.mem_append.1 hx with hx | hx
    · exact h1.2 x hx
    · exact h2.2 x hx⟩
/-- What is applied is small, and in order. -/
theorem applyP_fit (a : List Att) (l : List POp) : Fit2 (applyP a l).1 ∧ FitV (applyP a l).1 ∧ ((applyP a l).2 = 0 → Valid (applyP a l).1 ∧ sortedL (applyP a l).1 = (applyP a l).1) := by
  by_cases h : (applyP a l).2 = 0
  · obtain ⟨v1, v2⟩ := applyP_valid h
    obtain ⟨f1, f2, f3⟩ := valid_fit v1
    exact ⟨f1, f3, fun _ => ⟨v1, v2⟩⟩
  · rw [applyP_err h]
    exact ⟨⟨⟨by simp, by simp⟩, by simp [total]⟩, by simp [FitV], fun h' => absurd h' h⟩

end Go.Proofs.Tz

/- The statements about layer 46, for arguments of bounded size, further. -/
set_option maxRecDepth 100000
set_option maxHeartbeats 8000000
set_option linter.unusedVariables false
set_option linter.unusedSimpArgs false
namespace Go.Proofs.Tz
open Go.Vw Go.RowKit Go.Proofs

theorem nat20 : ((20 : Nat) : Int) = 20 := rfl
theorem nat40 : ((40 : Nat) : Int) = 40 := rfl
theorem nat1 : ((1 : Nat) : Int) = 1 := rfl

/-! ### differences -/
end Go.Proofs.Tz

/- The statements about layer 46: texts, compaction, repeats. -/
set_option maxRecDepth 100000
set_option maxHeartbeats 8000000
set_option linter.unusedVariables false
set_option linter.unusedSimpArgs false
namespace Go.Proofs.Tz
open Go.Vw Go.RowKit Go.Proofs

/-! ### compaction -/
/-! ### repeats -/
theorem repeat_all {a : List Att} {l : List POp} {o : POp} (hl : l.length ≤ 20) (hc : o.1 = oRepl → partP o = []) : applyP a (l ++ [o] ++ [o]) = applyP a (l ++ [o]) := by
  by_cases ho : opB o.1 = true
  · refine repeat_ok hl fun h1 h2 => hc ?_
    rcases opB_cases ho with h | h | h
    · exact absurd h h1
    · exact absurd h h2
    · exact h
  · have hne : checkP (l ++ [o]) ≠ 0 := fun h => ho (((checkP_zero _).1 h).2 o (by simp)).op
    have e : checkP (l ++ [o] ++ [o]) = checkP (l ++ [o]) := by
      rw [checkP_app (by simp; omega), if_neg hne]
    unfold applyP
    rw [e]
    simp only [if_neg hne]
theorem applyP_nf (a : List Att) (l : List POp) : sortedL (applyP a l).1 = (applyP a l).1 := by
  obtain ⟨f1, f2, f3⟩ := applyP_fit a l
  by_cases h : (applyP a l).2 = 0
  · exact (f3 h).2
  · rw [applyP_err h]
    exact List.length_eq_zero_iff.1 (Nat.le_zero.1 (sorted_len []))
end Go.Proofs.Tz

/- The statements about layer 46: repeats; shapes of the arguments. -/
set_option maxRecDepth 100000
set_option maxHeartbeats 8000000
set_option linter.unusedVariables false
set_option linter.unusedSimpArgs false
namespace Go.Proofs.Tz
open Go.Vw Go.RowKit Go.Proofs

theorem lawP9 (a : List Att) (l : List POp) (o : POp) : Ctr Tryz.prog 3 [.d (atts a), .d (pops l), .d (popD o)] (.d (.bool true)) := by
  have hpair : ∀ x : POp, (x.1 = oRepl → partP x = []) → l.length ≤ 20 → applyP a (l ++ [x] ++ [x]) = applyP a (l ++ [x]) := fun x h hl => repeat_all hl h
  have hg1 := greatP_fn 1 (by decide) [o]
  have hpo := hpair o
  have hpart : partP o = (pathP o.2.1).2.1 := rfl
  have hspec := fun h => (lightP_spec (m := 1) (l := [o]) h).2 o (by simp)
  have ho1 := fun h => lightP_fit (m := 1) (l := [o]) (by decide) h
  have hgr := greatP_fn 20 (by decide) l
  have hga := greatA_fn 40 (by decide) a
  have hcall := fun fa va (h : FitP (l ++ [o])) => papply_fn a (l ++ [o]) fa va h
  have hcall2 := fun fa va (h : FitP (l ++ [o] ++ [o])) => papply_fn a (l ++ [o] ++ [o]) fa va h
  have hfx := applyP_fit a (l ++ [o])
  have hnf := applyP_nf a (l ++ [o])
  generalize hone : [o] = one at *
  generalize hR : applyP a (l ++ one) = R at *
  subst hone
  obtain ⟨k, p, vs⟩ := o
  simp only at hpart hspec hpo
  rw [hpart] at hpo
  have hpath := path_fn p
  generalize pathP p = P at *
  obtain ⟨pn, pv, pe⟩ := P
  obtain ⟨x, e⟩ := R
  simp only at hfx hnf hpath hpo
  obtain ⟨f1, f2, _⟩ := hfx
  have hsA := sameA_fn x x f1.1 f1.1
  rw [decide_eq_true rfl] at hsA
  have heq := equal_fn x x f1 f1 (by rw [hnf]; exact f1.1) (by rw [hnf]; exact f1.1)
  rw [decide_eq_true rfl] at heq
  refine fn_of_vwp (fun i => i == 9000006 || i == 42 || i == 44 || i == 47 || i == 10 || i == 6000050) (by kernel_rfl) Tryz.func3 (by kernel_rfl) rfl rfl (Nat.le_of_ble_eq_true rfl) (by kernel_rfl) rfl rfl ?_
  rw [nat20] at hgr
  rw [nat40] at hga
  rw [nat1] at hg1
  simp only [pops, popD, strs, List.map_cons, List.map_nil] at hg1
  simp -implicitDefEqProofs [popD, strs]
  refine callK hgr ?_
  by_cases hl : lightP 20 l = true
  case neg =>
    simp -implicitDefEqProofs [hl]
    refine callK livePatch_fn ?_
    simp -implicitDefEqProofs
  simp -implicitDefEqProofs [hl]
  refine callK hga ?_
  by_cases ha : lightA 40 a = true
  case neg =>
    simp -implicitDefEqProofs [ha]
    refine callK livePatch_fn ?_
    simp -implicitDefEqProofs
  simp -implicitDefEqProofs [ha]
  repeat refine And.intro (by decide) ?_
  refine callK hg1 ?_
  by_cases ho : lightP 1 [(k, p, vs)] = true
  case neg =>
    simp -implicitDefEqProofs [ho]
    refine callK livePatch_fn ?_
    simp -implicitDefEqProofs
  have ll := (lightP_spec hl).1
  have fl := lightP_fit (by decide) hl
  have fo := ho1 ho
  have hsp := hspec ho
  obtain ⟨fa, va⟩ := lightA_fit (by decide) ha
  have fL := fl.app fo (by simp; omega)
  have fL2 := fL.app fo (by simp; omega)
  have hA := hcall fa.1 va fL
  have hB := hcall2 fa.1 va fL2
  have hpp := hpath (by omega)
  by_cases hk : k = oRepl
  · by_cases hpv : pv = []
    case neg =>
      simp -implicitDefEqProofs [ho]
      refine callK hpp ?_
      simp -implicitDefEqProofs [hk, hpv]
      refine callK livePatch_fn ?_
      simp -implicitDefEqProofs
    have hpo' := hpo (fun _ => hpv) ll
    rw [hpo'] at hB
    simp only [pops, popD, strs, atts, List.map_append, List.map_cons, List.map_nil, List.append_assoc, List.cons_append, List.nil_append] at hA hB hsA heq
    simp -implicitDefEqProofs [ho]
    refine callK hpp ?_
    subst hk
    simp -implicitDefEqProofs [hpv, pops, atts]
    refine ⟨fun u x y z _ h => by subst h; rfl, ?_⟩
    repeat refine And.intro (by omega) ?_
    refine callK hA ?_
    simp -implicitDefEqProofs [pops, atts]
    repeat refine And.intro (by first | omega | exact (fun u x y z _ h => by subst h; rfl)) ?_
    refine callK hB ?_
    simp -implicitDefEqProofs [pops, atts]
    repeat refine And.intro (by first | omega | exact (fun u x y z _ h => by subst h; rfl)) ?_
    refine callK hsA ?_
    simp -implicitDefEqProofs [pops, atts]
    repeat refine And.intro (by first | omega | exact (fun u x y z _ h => by subst h; rfl)) ?_
    refine callK heq ?_
    simp -implicitDefEqProofs [pops, atts]
    repeat refine And.intro (by first | omega | exact (fun u x y z _ h => by subst h; rfl)) ?_
    refine callK livePatch_fn ?_
    simp -implicitDefEqProofs
  · have hpo' := hpo (fun h => absurd h hk) ll
    rw [hpo'] at hB
    simp only [pops, popD, strs, atts, List.map_append, List.map_cons, List.map_nil, List.append_assoc, List.cons_append, List.nil_append] at hA hB hsA heq
    have hk' : ¬ k = [114, 101, 112, 108, 97, 99, 101] := hk
    simp -implicitDefEqProofs [ho]
    refine callK hpp ?_
    simp -implicitDefEqProofs [hk', pops, atts]
    refine ⟨fun u x y z _ h => by subst h; rfl, ?_⟩
    repeat refine And.intro (by omega) ?_
    refine callK hA ?_
    simp -implicitDefEqProofs [pops, atts]
    repeat refine And.intro (by first | omega | exact (fun u x y z _ h => by subst h; rfl)) ?_
    refine callK hB ?_
    simp -implicitDefEqProofs [pops, atts]
    repeat refine And.intro (by first | omega | exact (fun u x y z _ h => by subst h; rfl)) ?_
    refine callK hsA ?_
    simp -implicitDefEqProofs [pops, atts]
    repeat refine And.intro (by first | omega | exact (fun u x y z _ h => by subst h; rfl)) ?_
    refine callK heq ?_
    simp -implicitDefEqProofs [pops, atts]
    repeat refine And.intro (by first | omega | exact (fun u x y z _ h => by subst h; rfl)) ?_
    refine callK livePatch_fn ?_
    simp -implicitDefEqProofs
end Go.Proofs.Tz

/- The statements about layer 46: shapes of the arguments. -/
set_option linter.unusedVariables false
set_option linter.unusedSimpArgs false
namespace Go.Proofs.Tz
open Go.Vw

theorem fits_op {d : D} (h : Sh.Fits (.agg [.str, .str, .sl (.str)]) d) : ∃ x : POp, d = popD x := by
  simp only [Sh.Fits, Sh.FitsL] at h
  obtain ⟨ds, rfl, x, xs, rfl, ⟨s, rfl, _⟩, y, ys, rfl, ⟨t, rfl, _⟩, z, zs, rfl, hz, rfl⟩ := h
  obtain ⟨vs, rfl⟩ := fits_strs (by simpa only [Sh.Fits] using hz)
  exact ⟨(s, t, vs), rfl⟩
theorem fits_ops {d : D} (h : Sh.Fits (.sl (.agg [.str, .str, .sl (.str)])) d) : ∃ l : List POp, d = pops l := fits_list _ (fun _ h => fits_op h) h
theorem PatchRepeats_ok (a : List Att) (l : List POp) (o : POp) (hb : D.lims 140737488351232 [atts a, pops l, popD o]) : Ctr Tryz.prog 3 [.d (atts a), .d (pops l), .d (popD o)] (.d (.bool true)) := lawP9 a l o
end Go.Proofs.Tz
