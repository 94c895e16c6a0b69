/-
  What the functions that the statements about layer 46 (patch) reach compute, part 4 of 4: contracts and plain laws, for lists and strings of bounded size (each theorem states its bound).
-/
import Derived.Test.YtgfkbdcadpodcaaGreatDoorTa
import Derived.Test.YtgfkbdcadpodcaaGreatDoorWc
import Derived.Test.YtgfkbdcadpodcaaGreatDoorTc

set_option linter.unusedSimpArgs false
set_option linter.unusedVariables false

namespace Go.Proofs.Tz
open Go.Vw
set_option linter.unusedSimpArgs false

theorem fits_str {d : D} (h : Sh.Fits .str d) : ∃ s : Str, d = .str s := by
  simp only [Sh.Fits] at h
  obtain ⟨s, rfl, _⟩ := h
  exact ⟨s, rfl⟩
theorem fits_list {α : Type} {s : Sh} (g : α → D) (hs : ∀ d, Sh.Fits s d → ∃ a, d = g a) {d : D} (h : Sh.Fits (.sl s) d) : ∃ l : List α, d = .sl (l.map g) := by
  simp only [Sh.Fits] at h
  obtain ⟨ds, rfl, _, h⟩ := h
  have : ∀ ds : List D, (∀ x ∈ ds, Sh.Fits s x) → ∃ l : List α, ds = l.map g := by
    intro ds
    induction ds with
    | nil => intro _; exact ⟨[], rfl⟩
    | cons x ds ih =>
      intro h
      obtain ⟨a, rfl⟩ := hs x (h x (by simp))
      obtain ⟨l, rfl⟩ := ih fun y hy => h y (by simp [hy])
      exact ⟨a :: l, rfl⟩
  obtain ⟨l, rfl⟩ := this ds h
  exact ⟨l, rfl⟩
theorem fits_strs {d : D} (h : Sh.Fits (.sl .str) d) : ∃ l : List Str, d = strs l := fits_list _ (fun _ h => fits_str h) h
theorem fits_att {d : D} (h : Sh.Fits (.agg [.str, .sl .str]) d) : ∃ a : Att, d = att a := by
  simp only [Sh.Fits, Sh.FitsL] at h
  obtain ⟨ds, rfl, x, xs, rfl, ⟨s, rfl, _⟩, y, ys, rfl, hy, rfl⟩ := h
  obtain ⟨l, rfl⟩ := fits_strs (d := y) (by simp only [Sh.Fits]; exact hy)
  exact ⟨(s, l), rfl⟩
theorem fits_atts {d : D} (h : Sh.Fits (.sl (.agg [.str, .sl .str])) d) : ∃ l : List Att, d = atts l := fits_list _ (fun _ h => fits_att h) h

theorem bulk_map {α : Type} (g : α → D) (c : α → Nat) (h : ∀ a, (g a).bulk = c a) (l : List α) : D.bulks (l.map g) = (l.map c).sum := by
  rw [D.bulks_sum, List.map_map]
  congr 1
  exact List.map_congr_left fun a _ => h a
end Go.Proofs.Tz

/- The statements about layer 46, for arguments of bounded size. -/
set_option maxRecDepth 100000
set_option maxHeartbeats 8000000
set_option linter.unusedVariables false
set_option linter.unusedSimpArgs false
namespace Go.Proofs.Tz
open Go.Vw Go.RowKit Go.Proofs

theorem lightV_spec {vs : List Str} (h : lightV vs = true) : vs.length ≤ 20 ∧ ∀ v ∈ vs, List.length v ≤ 300 := by
  simp only [lightV, shortV, Bool.and_eq_true, decide_eq_true_eq, List.all_eq_true] at h
  exact h
theorem lightP_spec {m : Nat} {l : List POp} (h : lightP m l = true) : l.length ≤ m ∧ ∀ x ∈ l, List.length x.1 ≤ 300 ∧ List.length x.2.1 ≤ 400 ∧ x.2.2.length ≤ 20 ∧ ∀ v ∈ x.2.2, List.length v ≤ 300 := by
  simp only [lightP, Bool.and_eq_true, decide_eq_true_eq, List.all_eq_true] at h
  refine ⟨h.1, fun x hx => ?_⟩
  have := h.2 x hx
  simp only [lightO, Bool.and_eq_true, decide_eq_true_eq] at this
  exact ⟨this.1, this.2.1, (lightV_spec this.2.2).1, (lightV_spec this.2.2).2⟩
theorem lightP_fit {m : Nat} {l : List POp} (hm : m ≤ 100) (h : lightP m l = true) : FitP l := by
  obtain ⟨h1, h2⟩ := lightP_spec h
  exact ⟨by omega, fun x hx => by
    obtain ⟨a, b, c, d⟩ := h2 x hx
    exact ⟨by omega, by omega, by omega, fun v hv => by have := d v hv; omega⟩⟩
theorem lightA_fit {m : Nat} {a : List Att} (hm : m ≤ 100) (h : lightA m a = true) : Fit2 a ∧ FitV a := by
  simp only [lightA, Bool.and_eq_true, decide_eq_true_eq, List.all_eq_true] at h
  obtain ⟨h1, h2⟩ := h
  have h3 : ∀ x ∈ a, List.length x.1 ≤ 300 ∧ x.2.length ≤ 20 ∧ ∀ v ∈ x.2, List.length v ≤ 300 := fun x hx => by
    have := h2 x hx
    simp only [lightT, Bool.and_eq_true, decide_eq_true_eq] at this
    exact ⟨this.1, (lightV_spec this.2).1, (lightV_spec this.2).2⟩
  have ht := total_len (m := 20) (fun x hx => (h3 x hx).2.1)
  have : a.length * 20 ≤ 100 * 20 := Nat.mul_le_mul_right _ (by omega)
  exact ⟨⟨⟨by omega, fun x hx => by have := h3 x hx; omega⟩, by omega⟩, fun x hx v hv => by have := (h3 x hx).2.2 v hv; omega⟩
theorem FitP.app {l m : List POp} (h1 : FitP l) (h2 : FitP m) (h : l.length + m.length < 1000) : FitP (l ++ m) :=
  ⟨by simp; omega, fun x hx => by
    rcases List.mem_append.1 hx with hx | hx
    · exact h1.2 x hx
    · exact h2.2 x hx⟩
/-- What is applied is small, and in order. -/
theorem applyP_fit (a : List Att) (l : List POp) : Fit2 (applyP a l).1 ∧ FitV (applyP a l).1 ∧ ((applyP a l).2 = 0 → Valid (applyP a l).1 ∧ sortedL (applyP a l).1 = (applyP a l).1) := by
  by_cases h : (applyP a l).2 = 0
  · obtain ⟨v1, v2⟩ := applyP_valid h
    obtain ⟨f1, f2, f3⟩ := valid_fit v1
    exact ⟨f1, f3, fun _ => ⟨v1, v2⟩⟩
  · rw [applyP_err h]
    exact ⟨⟨⟨by simp, by simp⟩, by simp [total]⟩, by simp [FitV], fun h' => absurd h' h⟩

theorem lawP3 (l : List POp) (s : Str) : Ctr Tryz.prog 3 [.d (pops l), .d (.str s)] (.d (.bool true)) := by
  refine fn_of_vwp (fun _ => false) (by kernel_rfl) Tryz.func3 (by kernel_rfl) rfl rfl (Nat.le_of_ble_eq_true rfl) (by kernel_rfl) rfl rfl ?_
  have hgr := greatP_fn 40 (by decide) l
  have i40 : ((40 : Nat) : Int) = 40 := rfl
  rw [i40] at hgr
  simp -implicitDefEqProofs
  refine callK hgr ?_
  by_cases hl : lightP 40 l = true
  case neg =>
    simp -implicitDefEqProofs [hl]
    refine callK livePatch_fn ?_
    simp -implicitDefEqProofs
  by_cases hs : (400 : Int) < List.length s
  · simp -implicitDefEqProofs [hl, hs]
    refine callK livePatch_fn ?_
    simp -implicitDefEqProofs
  have hfit := lightP_fit (by decide) hl
  have hp := path_fn s (by omega)
  have hpR := pathR_fn s (by omega)
  generalize pathP s = P at *
  simp -implicitDefEqProofs [hl, hs]
  refine callK hp ?_
  simp -implicitDefEqProofs
  refine callK hpR ?_
  simp -implicitDefEqProofs
  refine callK (pcheck_fn l hfit) ?_
  simp -implicitDefEqProofs
  refine callK (pcheckR_fn l hfit) ?_
  simp -implicitDefEqProofs
  refine callK livePatch_fn ?_
  simp -implicitDefEqProofs

theorem lawP4 (a : List Att) (l : List POp) : Ctr Tryz.prog 4 [.d (atts a), .d (pops l)] (.d (.bool true)) := by
  refine fn_of_vwp (fun _ => false) (by kernel_rfl) Tryz.func4 (by kernel_rfl) rfl rfl (Nat.le_of_ble_eq_true rfl) (by kernel_rfl) rfl rfl ?_
  have i40 : ((40 : Nat) : Int) = 40 := rfl
  have hgr := greatP_fn 40 (by decide) l
  have hga := greatA_fn 40 (by decide) a
  rw [i40] at hgr hga
  simp -implicitDefEqProofs
  refine callK hgr ?_
  by_cases hl : lightP 40 l = true
  case neg =>
    simp -implicitDefEqProofs [hl]
    refine callK livePatch_fn ?_
    simp -implicitDefEqProofs
  simp -implicitDefEqProofs [hl]
  refine callK hga ?_
  by_cases ha : lightA 40 a = true
  case neg =>
    simp -implicitDefEqProofs [ha]
    refine callK livePatch_fn ?_
    simp -implicitDefEqProofs
  have fl := lightP_fit (by decide) hl
  obtain ⟨fa, va⟩ := lightA_fit (by decide) ha
  have hp := papply_fn a l fa.1 va fl
  have hpR := papplyR_fn a l fa.1 fl
  obtain ⟨f1, f2, f3⟩ := applyP_fit a l
  generalize applyP a l = R at *
  obtain ⟨x, e⟩ := R
  simp only at f1 f2 f3 hp hpR
  have hsame := sameA_fn x x f1.1 f1.1
  rw [decide_eq_true rfl] at hsame
  have hS := sorted_fn x f1
  by_cases he : e = 0
  · rw [(f3 he).2] at hS
    have hw : ∀ y ∈ x.map att, width y = 2 := fun y hy => by
      obtain ⟨z, _, rfl⟩ := List.mem_map.1 hy
      rfl
    simp only [atts] at hp hpR hsame hS
    generalize x.map att = X at *
    simp -implicitDefEqProofs [ha]
    refine callK hp ?_
    simp -implicitDefEqProofs
    refine callK hpR ?_
    simp -implicitDefEqProofs
    refine callK hsame ?_
    simp -implicitDefEqProofs [he]
    refine callK hS ?_
    simp -implicitDefEqProofs
    refine callK hsame ?_
    simp -implicitDefEqProofs
    refine callK livePatch_fn ?_
    simp -implicitDefEqProofs
  · simp only [atts] at hp hpR hsame hS
    generalize x.map att = X at *
    simp -implicitDefEqProofs [ha]
    refine callK hp ?_
    simp -implicitDefEqProofs
    refine callK hpR ?_
    simp -implicitDefEqProofs
    refine callK hsame ?_
    simp -implicitDefEqProofs [he]
    refine callK livePatch_fn ?_
    simp -implicitDefEqProofs
end Go.Proofs.Tz

/- The statements about layer 46, for arguments of bounded size, further. -/
set_option maxRecDepth 100000
set_option maxHeartbeats 8000000
set_option linter.unusedVariables false
set_option linter.unusedSimpArgs false
namespace Go.Proofs.Tz
open Go.Vw Go.RowKit Go.Proofs

theorem nat16 : ((16 : Nat) : Int) = 16 := rfl
theorem nat20 : ((20 : Nat) : Int) = 20 := rfl
theorem nat40 : ((40 : Nat) : Int) = 40 := rfl
theorem nat1 : ((1 : Nat) : Int) = 1 := rfl

theorem lawP5 (a : List Att) (l m : List POp) : Ctr Tryz.prog 5 [.d (atts a), .d (pops l), .d (pops m)] (.d (.bool true)) := by
  refine fn_of_vwp (fun _ => false) (by kernel_rfl) Tryz.func5 (by kernel_rfl) rfl rfl (Nat.le_of_ble_eq_true rfl) (by kernel_rfl) rfl rfl ?_
  have hgl := greatP_fn 16 (by decide) l
  have hgm := greatP_fn 16 (by decide) m
  have hga := greatA_fn 40 (by decide) a
  rw [nat16] at hgl hgm
  rw [nat40] at hga
  simp -implicitDefEqProofs
  refine callK hgl ?_
  by_cases hl : lightP 16 l = true
  case neg =>
    simp -implicitDefEqProofs [hl]
    refine callK livePatch_fn ?_
    simp -implicitDefEqProofs
  simp -implicitDefEqProofs [hl]
  refine callK hgm ?_
  by_cases hm : lightP 16 m = true
  case neg =>
    simp -implicitDefEqProofs [hm]
    refine callK livePatch_fn ?_
    simp -implicitDefEqProofs
  simp -implicitDefEqProofs [hm]
  refine callK hga ?_
  by_cases ha : lightA 40 a = true
  case neg =>
    simp -implicitDefEqProofs [ha]
    refine callK livePatch_fn ?_
    simp -implicitDefEqProofs
  have ll := (lightP_spec hl).1
  have lm := (lightP_spec hm).1
  have fl := lightP_fit (by decide) hl
  have fm := lightP_fit (by decide) hm
  obtain ⟨fa, va⟩ := lightA_fit (by decide) ha
  have hA := papply_fn a l fa.1 va fl
  obtain ⟨f1, f2, f3⟩ := applyP_fit a l
  have hB := papply_fn (applyP a l).1 m f1.1 f2 fm
  have hC := papply_fn a (l ++ m) fa.1 va (fl.app fm (by omega))
  have tk := chain_ok (a := a) (l := l) (m := m) (by omega)
  have te := chain_err (a := a) (l := l) (m := m) (by omega)
  have tn := applyP_err (a := a) (l := l ++ m)
  have tx := applyP_err (a := a) (l := l)
  obtain ⟨g1, g2, g3⟩ := applyP_fit (applyP a l).1 m
  have tb := applyP_err (a := (applyP a l).1) (l := m)
  have hsame := sameA_fn (applyP (applyP a l).1 m).1 (applyP (applyP a l).1 m).1 g1.1 g1.1
  rw [decide_eq_true rfl] at hsame
  generalize applyP a (l ++ m) = C at *
  generalize applyP (applyP a l).1 m = B at *
  generalize applyP a l = A at *
  obtain ⟨x, e⟩ := A
  obtain ⟨y, f⟩ := B
  obtain ⟨z, g⟩ := C
  simp only at tk te tn tx tb hA hB hC hsame
  simp only [pops, List.map_append] at hC
  simp only [atts, pops] at hA hB hC hsame
  by_cases e0 : e = 0
  · obtain ⟨rfl, rfl⟩ := Prod.mk.inj (tk e0)
    by_cases f0 : g = 0
    · simp -implicitDefEqProofs [ha, pops, atts]
      refine callK hA ?_
      simp -implicitDefEqProofs
      refine callK hB ?_
      simp -implicitDefEqProofs
      refine ⟨by rintro u x y z _ rfl; rfl, by omega, by omega, by rintro u x y z _ rfl; rfl, by omega, by omega, callK hC ?_⟩
      simp -implicitDefEqProofs [e0, f0]
      refine callK hsame ?_
      simp -implicitDefEqProofs
      refine callK livePatch_fn ?_
      simp -implicitDefEqProofs
    · have z0 := tb f0
      subst z0
      simp -implicitDefEqProofs [ha, pops, atts]
      refine callK hA ?_
      simp -implicitDefEqProofs
      refine callK hB ?_
      simp -implicitDefEqProofs
      refine ⟨by rintro u x y z _ rfl; rfl, by omega, by omega, by rintro u x y z _ rfl; rfl, by omega, by omega, callK hC ?_⟩
      simp -implicitDefEqProofs [e0, f0]
      refine callK livePatch_fn ?_
      simp -implicitDefEqProofs
  · have g0 := te e0
    have z0 := tn g0
    subst z0
    simp -implicitDefEqProofs [ha, pops, atts]
    refine callK hA ?_
    simp -implicitDefEqProofs
    refine callK hB ?_
    simp -implicitDefEqProofs
    refine ⟨by rintro u x y z _ rfl; rfl, by omega, by omega, by rintro u x y z _ rfl; rfl, by omega, by omega, callK hC ?_⟩
    simp -implicitDefEqProofs [e0, g0]
    refine callK livePatch_fn ?_
    simp -implicitDefEqProofs

/-! ### differences -/
theorem diffP_fit (a b : List Att) : FitP (diffP a b) := by
  unfold diffP
  split
  · rename_i h
    have va := (check_iff a).1 h.1
    have vb := (check_iff b).1 h.2
    obtain ⟨fa, _, fav⟩ := valid_fit va.sorted
    obtain ⟨fb, _, fbv⟩ := valid_fit vb.sorted
    have h1 := fm_len (diffA b) (diffA_len b) (sortedL a)
    have h2 := fm_len (diffB a) (diffB_len a) (sortedL b)
    have h3 := va.sorted.len
    have h4 := vb.sorted.len
    have r1 : List.length oRem < 1000000 := by decide
    have r2 : List.length oAdd < 1000000 := by decide
    have r3 : List.length oRepl < 1000000 := by decide
    refine ⟨by simp only [diffL, List.length_append]; omega, fun x hx => ?_⟩
    rcases List.mem_append.1 hx with hx | hx
    · obtain ⟨y, hy, hx⟩ := List.mem_flatMap.1 hx
      have f1 := fa.1.2 y hy
      unfold diffA at hx
      split at hx
      · rw [List.mem_singleton.1 hx]; exact ⟨r1, f1.1, by simp, by simp⟩
      · simp at hx
    · obtain ⟨y, hy, hx⟩ := List.mem_flatMap.1 hx
      have f1 := fb.1.2 y hy
      have f2 := fbv y hy
      unfold diffB at hx
      split at hx
      · rw [List.mem_singleton.1 hx]; exact ⟨r2, f1.1, f1.2, f2⟩
      · split at hx
        · simp at hx
        · rw [List.mem_singleton.1 hx]; exact ⟨r3, f1.1, f1.2, f2⟩
  · exact ⟨by simp, by simp⟩
theorem diffP_self (a : List Att) : diffP a a = [] := by
  unfold diffP
  split
  · exact diff_self a
  · rfl

theorem lawP6 (a b : List Att) : Ctr Tryz.prog 6 [.d (atts a), .d (atts b)] (.d (.bool true)) := by
  refine fn_of_vwp (fun _ => false) (by kernel_rfl) Tryz.func6 (by kernel_rfl) rfl rfl (Nat.le_of_ble_eq_true rfl) (by kernel_rfl) rfl rfl ?_
  have hga := greatA_fn 40 (by decide) a
  have hgb := greatA_fn 40 (by decide) b
  rw [nat40] at hga hgb
  simp -implicitDefEqProofs
  refine callK hga ?_
  by_cases ha : lightA 40 a = true
  case neg =>
    simp -implicitDefEqProofs [ha]
    refine callK livePatch_fn ?_
    simp -implicitDefEqProofs
  simp -implicitDefEqProofs [ha]
  refine callK hgb ?_
  by_cases hb : lightA 40 b = true
  case neg =>
    simp -implicitDefEqProofs [hb]
    refine callK livePatch_fn ?_
    simp -implicitDefEqProofs
  obtain ⟨fa, va⟩ := lightA_fit (by decide) ha
  obtain ⟨fb, vb⟩ := lightA_fit (by decide) hb
  have hd := diff_fn a b fa va fb vb
  have hdR := diffR_fn a b fa fb
  have hself := diff_fn a a fa va fa va
  rw [diffP_self] at hself
  have fd := diffP_fit a b
  have hsp := sameP_fn (diffP a b) (diffP a b) fd fd
  rw [decide_eq_true rfl] at hsp
  have hca := check_fn a fa.1 va
  have hcb := check_fn b fb.1 vb
  have hap := papply_fn a (diffP a b) fa.1 va fd
  have hsb := sortedR_fn b fb
  by_cases c1 : checkL a = 0
  case neg =>
    have hn : diffP a b = [] := by rw [diffP, if_neg (fun h => c1 h.1)]
    rw [hn] at hd hdR hsp
    simp only [pops, List.map_nil] at hd hdR hsp hself
    simp -implicitDefEqProofs [hb]
    refine callK hd ?_
    simp -implicitDefEqProofs
    refine callK hdR ?_
    simp -implicitDefEqProofs
    refine callK hsp ?_
    simp -implicitDefEqProofs
    refine callK hself ?_
    simp -implicitDefEqProofs
    refine callK livePatch_fn ?_
    simp -implicitDefEqProofs
    refine callK hca ?_
    simp -implicitDefEqProofs [c1]
  by_cases c2 : checkL b = 0
  case neg =>
    have hn : diffP a b = [] := by rw [diffP, if_neg (fun h => c2 h.2)]
    rw [hn] at hd hdR hsp
    simp only [pops, List.map_nil] at hd hdR hsp hself
    simp -implicitDefEqProofs [hb]
    refine callK hd ?_
    simp -implicitDefEqProofs
    refine callK hdR ?_
    simp -implicitDefEqProofs
    refine callK hsp ?_
    simp -implicitDefEqProofs
    refine callK hself ?_
    simp -implicitDefEqProofs
    refine callK livePatch_fn ?_
    simp -implicitDefEqProofs
    refine callK hca ?_
    simp -implicitDefEqProofs [c1]
    refine callK hcb ?_
    simp -implicitDefEqProofs [c2]
  have wa := (check_iff a).1 c1
  have wb := (check_iff b).1 c2
  have hdl : diffP a b = diffL a b := by rw [diffP, if_pos ⟨c1, c2⟩]
  have hda := diff_apply (a := a) (b := b) wa wb
  rw [← hdl] at hda
  have hsA := sameA_fn (sortedL b) (sortedL b) (valid_fit wb.sorted).1.1 (valid_fit wb.sorted).1.1
  rw [decide_eq_true rfl] at hsA
  clear hdl
  generalize diffP a b = dd at *
  by_cases c3 : dd.length ≤ 32
  · have c3' : ¬ (32 : Int) < dd.length := by omega
    have c3'' : ¬ 32 < dd.length := by omega
    rw [hda c3] at hap
    simp only [pops, atts, List.map_nil] at hd hdR hsp hself hap hsb hsA
    simp -implicitDefEqProofs [hb]
    refine callK hd ?_
    simp -implicitDefEqProofs
    refine callK hdR ?_
    simp -implicitDefEqProofs
    refine callK hsp ?_
    simp -implicitDefEqProofs
    refine callK hself ?_
    simp -implicitDefEqProofs
    refine callK livePatch_fn ?_
    simp -implicitDefEqProofs
    refine callK hca ?_
    simp -implicitDefEqProofs [c1]
    refine callK hcb ?_
    simp -implicitDefEqProofs [c2, c3', c3'', atts]
    refine callK hap ?_
    simp -implicitDefEqProofs
    refine callK hsb ?_
    simp -implicitDefEqProofs
    refine callK hsA ?_
    simp -implicitDefEqProofs
  · have c3' : (32 : Int) < dd.length := by omega
    have c3'' : 32 < dd.length := by omega
    simp only [pops, atts, List.map_nil] at hd hdR hsp hself hap hsb hsA
    simp -implicitDefEqProofs [hb]
    refine callK hd ?_
    simp -implicitDefEqProofs
    refine callK hdR ?_
    simp -implicitDefEqProofs
    refine callK hsp ?_
    simp -implicitDefEqProofs
    refine callK hself ?_
    simp -implicitDefEqProofs
    refine callK livePatch_fn ?_
    simp -implicitDefEqProofs
    refine callK hca ?_
    simp -implicitDefEqProofs [c1]
    refine callK hcb ?_
    simp -implicitDefEqProofs [c2, c3', c3'']
end Go.Proofs.Tz

/- The statements about layer 46: texts, compaction, repeats. -/
set_option maxRecDepth 100000
set_option maxHeartbeats 8000000
set_option linter.unusedVariables false
set_option linter.unusedSimpArgs false
namespace Go.Proofs.Tz
open Go.Vw Go.RowKit Go.Proofs

theorem parseGoP_fit : ∀ (n : Nat) (s : Str) (out : List POp), List.length s ≤ n → n ≤ 4096 → FitP out → out.length ≤ 64 → FitP (parseGoP s out).1 := by
  have hnil : FitP [] := ⟨by simp, by simp⟩
  intro n
  induction n with
  | zero =>
    intro s out h _ hf _
    have : s = [] := List.length_eq_zero_iff.1 (by omega)
    subst this
    rw [parseGoP_nil]; exact hf
  | succ n ih =>
    intro s out h hn hf ho
    by_cases hs : s = []
    · subst hs; rw [parseGoP_nil]; exact hf
    by_cases hix : 0 ≤ ixB s 10
    · obtain ⟨j, hj⟩ := Int.eq_ofNat_of_zero_le hix
      have hlt := ixB_lt hix
      rw [hj, Int.toNat_natCast] at hlt
      have hj' : ixB s 10 = (j : Int) := hj
      rw [parseGoP_at out hj']
      cases hl : readP (s.take j) with
      | none => exact hnil
      | some r =>
        simp only
        split
        · rename_i hc
          refine ih _ _ (by rw [List.length_drop]; omega) (by omega) (hf.snoc ho (by rw [List.length_take]; omega) hl) ?_
          have := checkP_le hc
          omega
        · exact hnil
    · rw [parseGoP_no out hs (by omega)]; exact hnil
theorem parseP_fit (s : Str) : FitP (parseP s).1 := by
  unfold parseP
  split
  · exact ⟨by simp, by simp⟩
  · exact parseGoP_fit 4096 s [] (by omega) (by omega) ⟨by simp, by simp⟩ (by simp)
theorem textP_len {l : List POp} : List.length (textP l).1 < 1000000 := by
  unfold textP
  split
  · split
    · simp
    · simp only; omega
  · simp

theorem lawP7 (l : List POp) (s : Str) : Ctr Tryz.prog 7 [.d (pops l), .d (.str s)] (.d (.bool true)) := by
  refine fn_of_vwp (fun _ => false) (by kernel_rfl) Tryz.func7 (by kernel_rfl) rfl rfl (Nat.le_of_ble_eq_true rfl) (by kernel_rfl) rfl rfl ?_
  have hgr := greatP_fn 40 (by decide) l
  rw [nat40] at hgr
  simp -implicitDefEqProofs
  refine callK hgr ?_
  by_cases hl : lightP 40 l = true
  case neg =>
    simp -implicitDefEqProofs [hl]
    refine callK livePatch_fn ?_
    simp -implicitDefEqProofs
  by_cases hs : (600 : Int) < List.length s
  · simp -implicitDefEqProofs [hl, hs]
    refine callK livePatch_fn ?_
    simp -implicitDefEqProofs
  have hfit := lightP_fit (by decide) hl
  have hs' : List.length s < 1000000 := by omega
  have hp := pparse_fn s hs'
  have hpR := pparseR_fn s hs'
  have hpf := parseP_fit s
  have hback := fun k => backP2 (s := s) (x := (parseP s).1) (k := k)
  have hnone := backP3 (s := s)
  have hsx := sameP_fn (parseP s).1 (parseP s).1 hpf hpf
  rw [decide_eq_true rfl] at hsx
  obtain ⟨x, k, e, hP⟩ : ∃ x k e, parseP s = (x, k, e) := ⟨_, _, _, rfl⟩
  rw [hP] at hp hpR hpf hback hnone hsx
  simp only at hpf hback hnone hsx
  have hx := ptext_fn x hpf
  have ht := ptext_fn l hfit
  have htR := ptextR_fn l hfit
  have htl := textP_len (l := l)
  have hb1 := fun t => backP1 (l := l) (t := t)
  have hsame := sameP_fn l l hfit hfit
  rw [decide_eq_true rfl] at hsame
  obtain ⟨t, d, hT⟩ : ∃ t d, textP l = (t, d) := ⟨_, _, rfl⟩
  rw [hT] at ht htR htl hb1
  have hp1 := pparse_fn t htl
  simp only [pops] at hp hpR hp1 hx hsx hsame ht htR
  by_cases e1 : d = 0
  · subst e1
    rw [hb1 t rfl] at hp1
    simp only at hp1
    by_cases e2 : e = 0
    · subst e2
      obtain ⟨hb2, rfl⟩ := hback k rfl
      rw [hb2] at hx
      simp -implicitDefEqProofs [hl, hs, pops]
      refine callK ht ?_
      simp -implicitDefEqProofs
      refine callK htR ?_
      simp -implicitDefEqProofs
      refine callK hp ?_
      simp -implicitDefEqProofs
      refine callK hpR ?_
      simp -implicitDefEqProofs
      refine callK hsx ?_
      simp -implicitDefEqProofs
      refine callK livePatch_fn ?_
      simp -implicitDefEqProofs
      refine callK hx ?_
      simp -implicitDefEqProofs
      refine callK hp1 ?_
      simp -implicitDefEqProofs
      refine callK hsame ?_
      simp -implicitDefEqProofs
    · have hx0 := hnone e2
      subst hx0
      simp -implicitDefEqProofs [hl, hs, pops]
      refine callK ht ?_
      simp -implicitDefEqProofs
      refine callK htR ?_
      simp -implicitDefEqProofs
      refine callK hp ?_
      simp -implicitDefEqProofs
      refine callK hpR ?_
      simp -implicitDefEqProofs
      refine callK hsx ?_
      simp -implicitDefEqProofs
      refine callK livePatch_fn ?_
      simp -implicitDefEqProofs [e2]
      refine callK hp1 ?_
      simp -implicitDefEqProofs
      refine callK hsame ?_
      simp -implicitDefEqProofs
  · by_cases e2 : e = 0
    · subst e2
      obtain ⟨hb2, rfl⟩ := hback k rfl
      rw [hb2] at hx
      simp -implicitDefEqProofs [hl, hs, pops]
      refine callK ht ?_
      simp -implicitDefEqProofs
      refine callK htR ?_
      simp -implicitDefEqProofs
      refine callK hp ?_
      simp -implicitDefEqProofs
      refine callK hpR ?_
      simp -implicitDefEqProofs
      refine callK hsx ?_
      simp -implicitDefEqProofs
      refine callK livePatch_fn ?_
      simp -implicitDefEqProofs
      refine callK hx ?_
      simp -implicitDefEqProofs [e1]
    · have hx0 := hnone e2
      subst hx0
      simp -implicitDefEqProofs [hl, hs, pops]
      refine callK ht ?_
      simp -implicitDefEqProofs
      refine callK htR ?_
      simp -implicitDefEqProofs
      refine callK hp ?_
      simp -implicitDefEqProofs
      refine callK hpR ?_
      simp -implicitDefEqProofs
      refine callK hsx ?_
      simp -implicitDefEqProofs
      refine callK livePatch_fn ?_
      simp -implicitDefEqProofs [e1, e2]

/-! ### compaction -/
theorem compP_fit {l : List POp} (h : FitP l) : FitP (compP l) := by
  unfold compP
  split
  · exact ⟨Nat.lt_of_le_of_lt (comp_sub l).length_le h.1, fun x hx => h.2 x ((comp_sub l).subset hx)⟩
  · exact h

theorem lawP8 (a : List Att) (l : List POp) : Ctr Tryz.prog 8 [.d (atts a), .d (pops l)] (.d (.bool true)) := by
  refine fn_of_vwp (fun _ => false) (by kernel_rfl) Tryz.func8 (by kernel_rfl) rfl rfl (Nat.le_of_ble_eq_true rfl) (by kernel_rfl) rfl rfl ?_
  have hgr := greatP_fn 40 (by decide) l
  have hga := greatA_fn 40 (by decide) a
  rw [nat40] at hgr hga
  simp -implicitDefEqProofs
  refine callK hgr ?_
  by_cases hl : lightP 40 l = true
  case neg =>
    simp -implicitDefEqProofs [hl]
    refine callK livePatch_fn ?_
    simp -implicitDefEqProofs
  simp -implicitDefEqProofs [hl]
  refine callK hga ?_
  by_cases ha : lightA 40 a = true
  case neg =>
    simp -implicitDefEqProofs [ha]
    refine callK livePatch_fn ?_
    simp -implicitDefEqProofs
  have ll := (lightP_spec hl).1
  have fl := lightP_fit (by decide) hl
  obtain ⟨fa, va⟩ := lightA_fit (by decide) ha
  have hal : a.length ≤ 40 := by
    simp only [lightA, Bool.and_eq_true, decide_eq_true_eq] at ha
    exact ha.1
  have fc := compP_fit fl
  have hc := pcompact_fn l fl
  have hcR := pcompactR_fn l fl
  have hcc := pcompact_fn (compP l) fc
  rw [compP_idem] at hcc
  have hsp := sameP_fn (compP l) (compP l) fc fc
  rw [decide_eq_true rfl] at hsp
  have hA := papply_fn a l fa.1 va fl
  have hB := papply_fn a (compP l) fa.1 va fc
  obtain ⟨f1, f2, f3⟩ := applyP_fit a l
  have hsA := sameA_fn (applyP a l).1 (applyP a l).1 f1.1 f1.1
  rw [decide_eq_true rfl] at hsA
  have hk := fun b => comp_apply (a := a) (b := b) (l := l)
  generalize applyP a l = A at *
  obtain ⟨x, e⟩ := A
  simp only at hA hsA hk
  by_cases e0 : e = 0
  · subst e0
    by_cases h32 : a.length + l.length ≤ 32
    · have h32' : ¬ (32 : Int) < (a.length : Int) + l.length := by omega
      rw [hk x h32 rfl] at hB
      generalize compP l = c at *
      simp only [atts, pops] at hc hcR hcc hsp hA hB hsA
      simp -implicitDefEqProofs [ha, pops, atts]
      refine callK hc ?_
      simp -implicitDefEqProofs
      refine callK hcR ?_
      simp -implicitDefEqProofs
      refine callK hsp ?_
      simp -implicitDefEqProofs
      refine callK hcc ?_
      simp -implicitDefEqProofs
      refine callK hsp ?_
      simp -implicitDefEqProofs
      refine callK livePatch_fn ?_
      simp -implicitDefEqProofs
      refine callK hA ?_
      simp -implicitDefEqProofs [h32']
      repeat refine And.intro (by omega) ?_
      refine callK hB ?_
      simp -implicitDefEqProofs
      refine callK hsA ?_
      simp -implicitDefEqProofs
    · have h32' : (32 : Int) < (a.length : Int) + l.length := by omega
      generalize compP l = c at *
      simp only [atts, pops] at hc hcR hcc hsp hA hB hsA
      simp -implicitDefEqProofs [ha, pops, atts]
      refine callK hc ?_
      simp -implicitDefEqProofs
      refine callK hcR ?_
      simp -implicitDefEqProofs
      refine callK hsp ?_
      simp -implicitDefEqProofs
      refine callK hcc ?_
      simp -implicitDefEqProofs
      refine callK hsp ?_
      simp -implicitDefEqProofs
      refine callK livePatch_fn ?_
      simp -implicitDefEqProofs
      refine callK hA ?_
      simp -implicitDefEqProofs [h32']
      omega
  · generalize compP l = c at *
    simp only [atts, pops] at hc hcR hcc hsp hA hB hsA
    simp -implicitDefEqProofs [ha, pops, atts]
    refine callK hc ?_
    simp -implicitDefEqProofs
    refine callK hcR ?_
    simp -implicitDefEqProofs
    refine callK hsp ?_
    simp -implicitDefEqProofs
    refine callK hcc ?_
    simp -implicitDefEqProofs
    refine callK hsp ?_
    simp -implicitDefEqProofs
    refine callK livePatch_fn ?_
    simp -implicitDefEqProofs
    refine callK hA ?_
    simp -implicitDefEqProofs [e0]

/-! ### repeats -/
theorem repeat_all {a : List Att} {l : List POp} {o : POp} (hl : l.length ≤ 20) (hc : o.1 = oRepl → partP o = []) : applyP a (l ++ [o] ++ [o]) = applyP a (l ++ [o]) := by
  by_cases ho : opB o.1 = true
  · refine repeat_ok hl fun h1 h2 => hc ?_
    rcases opB_cases ho with h | h | h
    · exact absurd h h1
    · exact absurd h h2
    · exact h
  · have hne : checkP (l ++ [o]) ≠ 0 := fun h => ho (((checkP_zero _).1 h).2 o (by simp)).op
    have e : checkP (l ++ [o] ++ [o]) = checkP (l ++ [o]) := by
      rw [checkP_app (by simp; omega), if_neg hne]
    unfold applyP
    rw [e]
    simp only [if_neg hne]
theorem applyP_nf (a : List Att) (l : List POp) : sortedL (applyP a l).1 = (applyP a l).1 := by
  obtain ⟨f1, f2, f3⟩ := applyP_fit a l
  by_cases h : (applyP a l).2 = 0
  · exact (f3 h).2
  · rw [applyP_err h]
    exact List.length_eq_zero_iff.1 (Nat.le_zero.1 (sorted_len []))
end Go.Proofs.Tz

/- The statements about layer 46: shapes of the arguments. -/
set_option linter.unusedVariables false
set_option linter.unusedSimpArgs false
namespace Go.Proofs.Tz
open Go.Vw

theorem fits_op {d : D} (h : Sh.Fits (.agg [.str, .str, .sl (.str)]) d) : ∃ x : POp, d = popD x := by
  simp only [Sh.Fits, Sh.FitsL] at h
  obtain ⟨ds, rfl, x, xs, rfl, ⟨s, rfl, _⟩, y, ys, rfl, ⟨t, rfl, _⟩, z, zs, rfl, hz, rfl⟩ := h
  obtain ⟨vs, rfl⟩ := fits_strs (by simpa only [Sh.Fits] using hz)
  exact ⟨(s, t, vs), rfl⟩
theorem fits_ops {d : D} (h : Sh.Fits (.sl (.agg [.str, .str, .sl (.str)])) d) : ∃ l : List POp, d = pops l := fits_list _ (fun _ h => fits_op h) h

theorem PatchChecks_ok (l : List POp) (s : Str) (hb : D.lims 140737488351232 [pops l, .str s]) : Ctr Tryz.prog 3 [.d (pops l), .d (.str s)] (.d (.bool true)) := lawP3 l s
theorem PatchApplies_ok (a : List Att) (l : List POp) (hb : D.lims 140737488351232 [atts a, pops l]) : Ctr Tryz.prog 4 [.d (atts a), .d (pops l)] (.d (.bool true)) := lawP4 a l
theorem PatchChains_ok (a : List Att) (l m : List POp) (hb : D.lims 140737488351232 [atts a, pops l, pops m]) : Ctr Tryz.prog 5 [.d (atts a), .d (pops l), .d (pops m)] (.d (.bool true)) := lawP5 a l m
theorem PatchDiffs_ok (a b : List Att) (hb : D.lims 140737488351232 [atts a, atts b]) : Ctr Tryz.prog 6 [.d (atts a), .d (atts b)] (.d (.bool true)) := lawP6 a b
theorem PatchTexts_ok (l : List POp) (s : Str) (hb : D.lims 140737488351232 [pops l, .str s]) : Ctr Tryz.prog 7 [.d (pops l), .d (.str s)] (.d (.bool true)) := lawP7 l s
theorem PatchCompacts_ok (a : List Att) (l : List POp) (hb : D.lims 140737488351232 [atts a, pops l]) : Ctr Tryz.prog 8 [.d (atts a), .d (pops l)] (.d (.bool true)) := lawP8 a l
end Go.Proofs.Tz
