/-
  What the functions that the statements about merged states reach compute, part 6 of 6, for data of bounded size (each theorem states its bound).
-/import Derived.Test.YtnknfnfinhagoaaGreatDoorTi
import Derived.Test.YtnknfnfinhagoaaGreatDoorTj
import Derived.Test.YtnknfnfinhagoaaGreatDoorWg
import Derived.MakeChecks
open Go.Proofs.Tryz
set_option linter.unusedSimpArgs false
set_option linter.unusedVariables false
set_option maxRecDepth 100000
namespace Go.Proofs.Tz
open Go.Vw Go.RowKit Go.Proofs
theorem c1r {d : D} (h : Sh.Fits (.agg [.int .i64, .int .i64, .int .i64]) d) : ∃ x : Csn, d = B5 x := by
  simp only [Sh.Fits, Sh.FitsL] at h; obtain ⟨ds, rfl, x, xs, rfl, ⟨a, rfl, _⟩, y, ys, rfl, ⟨b, rfl, _⟩, z, zs, rfl, ⟨c, rfl, _⟩, rfl⟩ := h; exact ⟨(a, b, c), rfl⟩
theorem fits_chg {d : D} (h : Sh.Fits (.agg [.agg [.int .i64, .int .i64, .int .i64], .int .i64, .str, .str, .str, .str]) d) : ∃ x : Chg, d = A8 x := by
  simp only [Sh.Fits, Sh.FitsL] at h; obtain ⟨ds, rfl, n, ns, rfl, hn, o, os, rfl, ⟨ov, rfl, _⟩, i, is, rfl, ⟨iv, rfl, _⟩, m, ms, rfl, ⟨mv, rfl, _⟩, a, az, rfl, ⟨av, rfl, _⟩, v, vs, rfl, ⟨vv, rfl, _⟩, rfl⟩ := h; obtain ⟨c, rfl⟩ := c1r (by simp only [Sh.Fits, Sh.FitsL]; exact hn); exact ⟨(c, ov, iv, mv, av, vv), rfl⟩
theorem fits_chgs {d : D} (h : Sh.Fits (.sl (.agg [.agg [.int .i64, .int .i64, .int .i64], .int .i64, .str, .str, .str, .str])) d) : ∃ x : List Chg, d = G0 x := by
  rw [Sh.Fits] at h; obtain ⟨ds, rfl, _, hd⟩ := h; have key : ∀ (ds : List D), (∀ x ∈ ds, Sh.Fits (.agg [.agg [.int .i64, .int .i64, .int .i64], .int .i64, .str, .str, .str, .str]) x) → ∃ l : List Chg, ds = l.map A8 := by
    intro ds
    induction ds with
    | nil => intro _; exact ⟨[], rfl⟩
    | cons d ds ih =>
      intro h; obtain ⟨x, rfl⟩ := fits_chg (h d (by simp)); obtain ⟨l, rfl⟩ := ih (fun y hy => h y (by simp [hy])); exact ⟨x :: l, rfl⟩
  obtain ⟨l, rfl⟩ := key ds hd; exact ⟨l, rfl⟩
theorem c1w {l : List Chg} (h : D.lim 140737488351232 (G0 l)) : l.length ≤ 140737488351232 := by
  simpa [G0, D.lim] using h.1
end Go.Proofs.Tz
set_option maxHeartbeats 8000000
namespace Go.Proofs.Tz
open Go.Vw Go.RowKit Go.Proofs Go.Sort
theorem b9s {l : List Chg} {c : Chg} (hl : l.length ≤ 4000) (h : a3a l c = true) : b0Y (ofR [] l) c := by
  intro x hx e; have hm := ((b4k (R := []) (l := l) (by simpa using hl)).1 x).1 hx; simp only [List.not_mem_nil, false_or] at hm; unfold a3a at h; have := List.all_eq_true.1 h x hm.1; simp only [e, decide_true, Bool.true_and, Bool.not_eq_true', decide_eq_false_iff_not] at this; omega
def LtI (l : List Chg) (c : Chg) (s : Nat) (k : Nat) (τ : St) : Prop := τ 0 = .d (G0 l) ∧ τ 3 = .box (A8 c) ∧ τ 5 = .d (.raw (va s)) ∧ τ 6 = .d (.int .i64 k) ∧ StF τ 1000000 s (ofR [] (l.take k))
theorem c0z (l : List Chg) (c : Chg) (hl : l.length ≤ 140737488351232) : Ctr prog 5 [.d (G0 l), .d (A8 c)] (.d (.bool true)) := by
  have a1 := c1d; have s1 := b4h l hl; have s2 := b4h [c] (by simp); have ec : A8 c = .agg [B5 c.1, .int .i64 (opC c), .str (idC c), .str c.2.2.2.1, .str c.2.2.2.2.1, .str c.2.2.2.2.2] := rfl; simp only [G0, List.map_cons, List.map_nil] at s1 s2; refine fv (fun i => i == 5000034 || i == 5000048 || i == 5000053 || i == 5000061 || i == 5000067 || i == 5000128) func5 (by kernel_rfl) rfl rfl rfl rfl rfl ?_; rcases Classical.em (a2i l = true) with q1 | q1
  case inr =>
    have q1' : a2i l = false := (by simpa using q1); rw [q1'] at s1; simp -implicitDefEqProofs [G0, ec, A4]; refine A1 s1 ?_; simp -implicitDefEqProofs [G0, ec, A4]; refine A1 a1 ?_; simp -implicitDefEqProofs [G0, ec, A4]
  rw [q1] at s1; obtain ⟨hl14, hfl⟩ := b1V q1; rcases Classical.em (a2i [c] = true) with q2 | q2
  case inr =>
    have q2' : a2i [c] = false := (by simpa using q2); rw [q2'] at s2; rw [ec] at s2; simp -implicitDefEqProofs [G0, ec, A4]; refine A1 s1 ?_; simp -implicitDefEqProofs [G0, ec, A4]; refine A1 s2 ?_; simp -implicitDefEqProofs [G0, ec, A4]; refine A1 a1 ?_; simp -implicitDefEqProofs [G0, ec, A4]
  rw [q2] at s2; have hfc : Q7 c := (b1V q2).2 c (by simp); have s3 := b9o l c (by omega); have s4 := a5h c hfc; simp only [G0] at s3; rw [ec] at s2 s3 s4; rcases Classical.em (a3a l c = true) with q3 | q3
  case inr =>
    have q3' : a3a l c = false := (by simpa using q3); rw [q3'] at s3; simp -implicitDefEqProofs [G0, ec, A4]; refine A1 s1 ?_; simp -implicitDefEqProofs [G0, ec, A4]; refine A1 s2 ?_; simp -implicitDefEqProofs [G0, ec, A4]; refine A1 s3 ?_; simp -implicitDefEqProofs [G0, ec, A4]; refine A1 a1 ?_; simp -implicitDefEqProofs [G0, ec, A4]
  rw [q3] at s3; rcases Classical.em (H7 c = 0) with h00 | h00
  case inr =>
    simp -implicitDefEqProofs [G0, ec, A4]; refine A1 s1 ?_; simp -implicitDefEqProofs [G0, ec, A4]; refine A1 s2 ?_; simp -implicitDefEqProofs [G0, ec, A4]; refine A1 s3 ?_; simp -implicitDefEqProofs [G0, ec, A4]; refine A1 s4 ?_; simp -implicitDefEqProofs [G0, ec, A4, h00]; refine A1 a1 ?_; simp -implicitDefEqProofs [G0, ec, A4]
  rw [h00] at s4; simp -implicitDefEqProofs [G0, ec, A4]; refine A1 s1 ?_; simp -implicitDefEqProofs [G0, ec, A4]; refine A1 s2 ?_; simp -implicitDefEqProofs [G0, ec, A4]; refine A1 s3 ?_; simp -implicitDefEqProofs [G0, ec, A4]; refine A1 s4 ?_; simp -implicitDefEqProofs [G0, ec, A4]; refine c5a 1000000 (Nat.le_refl _) (by omega) (fun s τ1 hF1 f1 o1 p1 => ?_); have t10 : τ1 0 = .d (G0 l) := o1.dd (by omega) (by omega) (by simp [G0]); have t13 : τ1 3 = .box (A8 c) := o1.bx (by omega) (by omega) (by simp [ec]); simp -implicitDefEqProofs [f1, t10, t13, ec, A4]; refine H3 l.length (LtI l c s) ⟨by simp [t10], by simp [t13], by simp, by simp, (by (repeat (first | exact hF1 | refine StF.put ?_ (by omega) | refine StF.setv ?_ (by omega) | refine StF.clean ?_ _)))⟩ ?_; clear f1 t10 t13 o1 p1 hF1 s1 s2 s3 s4; rintro k τ hk ⟨h0, h3, h5, h6, hF⟩; rcases Nat.lt_or_ge k l.length with hlt | hlt
  · have hlt' : (k : Int) < l.length := (by omega); obtain ⟨x, hx⟩ : ∃ x, l[k] = x := ⟨_, rfl⟩; have hfx : Q7 x := by rw [← hx]; exact hfl _ (gmm _)
    have ex : A8 x = .agg [B5 x.1, .int .i64 (opC x), .str (idC x), .str x.2.2.2.1, .str x.2.2.2.2.1, .str x.2.2.2.2.2] := rfl; have hR2 : ofR [] (l.take (k + 1)) = N0 (ofR [] (l.take k)) x := by rw [G9 hlt, hx]; simp [ofR]
    simp -implicitDefEqProofs [h0, h3, h5, h6, hlt, hlt', G0, hx, ex, A4]; rw [← ex]; refine b4i (R := ofR [] (l.take k)) 1000000 s (by omega) (by omega) (by (repeat (first | exact hF | refine StF.put ?_ (by omega) | refine StF.setv ?_ (by omega) | refine StF.clean ?_ _))) hfx (fun τ3 hF3 f3 o3 p3 => ?_); rw [← hR2] at hF3; have u0 : τ3 0 = .d (G0 l) := o3.dd (by omega) (by omega) (by simp [h0]); have u3 : τ3 3 = .box (A8 c) := o3.bx (by omega) (by omega) (by simp [h3]); have u5 : τ3 5 = .d (.raw (va s)) := o3.dd (by omega) (by omega) (by simp [h5]); have u6 : τ3 6 = .d (.int .i64 k) := o3.dd (by omega) (by omega) (by simp [h6]); simp -implicitDefEqProofs [u0, u3, u5, u6]; exact ⟨by omega, E5 hlt ⟨by simp [u0], by simp [u3], by simp [u5], by simp, (by (repeat (first | exact hF3 | refine StF.put ?_ (by omega) | refine StF.setv ?_ (by omega) | refine StF.clean ?_ _)))⟩⟩
  · have hlt' : ¬ (k : Int) < l.length := (by omega); have hlt'' : ¬ k < l.length := (by omega); rw [ttl hlt] at hF; obtain ⟨m1, n1⟩ := b4k (R := []) (l := l) (by simp; omega); simp only [List.length_nil, Nat.zero_add] at n1; have hLR := b9s (l := l) (c := c) (by omega) q3; generalize ofR [] l = R at *; have hE : R3 R c = 0 := by rw [b7z (by omega)]; exact h00
    have hA : N0 R c = R ++ [c] := by unfold N0; rw [if_pos ⟨h00, b9D hLR, by omega⟩]
    have hG := a5P hF.1; have en : ∀ id x, StD R x → _ := fun id x hx => a9o R x id hx hG
    obtain ⟨⟨⟨es, ea⟩, eb⟩, hee⟩ : ∃ p, K2 R (idC c) = p := ⟨_, rfl⟩; have en1 := fun x hx => en (idC c) x hx
    rw [hee] at en1; have hE2 : ∀ s a, a1S s a = .agg [.str s, .sl (a.map att)] := fun _ _ => rfl
    simp -implicitDefEqProofs [h0, h3, h5, h6, hlt', hlt'', G0, ec, A4]; refine a0c (ds := [.str (idC c)]) (res := _) 1000000 s (by omega) (by omega) (by (repeat (first | exact hF | refine StF.put ?_ (by omega) | refine StF.setv ?_ (by omega) | refine StF.clean ?_ _))) (enters_of func21 (by kernel_rfl) rfl) en1 (a4w _ _ _) (fun τ2 hF2 f2 o2 p2 => ?_); simp only [hE2] at f2; have u3 : τ2 3 = .box (A8 c) := o2.bx (by omega) (by omega) (by simp [h3]); have u5 : τ2 5 = .d (.raw (va s)) := o2.dd (by omega) (by omega) (by simp [h5]); cases eb with
    | false =>
      simp -implicitDefEqProofs [f2, u3, u5, ec, A4]; refine A1 a1 ?_; simp -implicitDefEqProofs [f2]
    | true =>
    have hlive : idC c ∈ B4 R := by
      refine Classical.byContradiction fun hn => ?_
      rw [b1a hn] at hee; simp at hee
    have hK := b7m hF.1.ok hLR h00 hlive; have hB1 := b4D hG (idC c); simp -implicitDefEqProofs [f2, u3, u5, ec, A4]; rw [← ec]; refine b4i (R := R) 1000000 s (by omega) (by omega) (by (repeat (first | exact hF2 | refine StF.put ?_ (by omega) | refine StF.setv ?_ (by omega) | refine StF.clean ?_ _))) hfc (fun τ3 hF3 f3 o3 p3 => ?_); rw [hA] at hF3; rw [hE] at f3; have hG3 := a5P hF3.1; have hB2 := b4D hG3 (idC c); have v3 : τ3 3 = .box (A8 c) := o3.bx (by omega) (by omega) (by simp [u3, ec]); have v5 : τ3 5 = .d (.raw (va s)) := o3.dd (by omega) (by omega) (by simp [u5]); have v7 : τ3 7 = .box (.agg [.str es, .sl (ea.map att)]) := o3.bx (by omega) (by omega) (by simp [u5]); simp -implicitDefEqProofs [f3, v3, v5, v7, ec, A4]; obtain ⟨⟨⟨fs, fa⟩, fb⟩, hff⟩ : ∃ p, K2 (R ++ [c]) (idC c) = p := ⟨_, rfl⟩; have en2 : ∀ x, StD (R ++ [c]) x → _ := fun x hx => a9o (R ++ [c]) x (idC c) hx hG3
    rw [hff] at en2; refine a0c (ds := [.str (idC c)]) (res := _) 1000000 s (by omega) (by omega) (by (repeat (first | exact hF3 | refine StF.put ?_ (by omega) | refine StF.setv ?_ (by omega) | refine StF.clean ?_ _))) (enters_of func21 (by kernel_rfl) rfl) en2 (a4w _ _ _) (fun τ4 hF4 f4 o4 p4 => ?_); simp only [hE2] at f4; have w3 : τ4 3 = .box (A8 c) := o4.bx (by omega) (by omega) (by simp [v3, ec]); have w5 : τ4 5 = .d (.raw (va s)) := o4.dd (by omega) (by omega) (by simp [v5]); have w7 : τ4 7 = .box (.agg [.str es, .sl (ea.map att)]) := o4.bx (by omega) (by omega) (by simp [v7]); rw [hff] at hB2; rw [hee] at hB1; have hhas := fun n v (hn : List.length n < 1000000) => c4a fa n v hB2.fit hn
    have heq := b8H fa ea hB2.fit hB1.fit (by rw [hB2.normal]; exact hB2.fit.1) (by rw [hB1.normal]; exact hB1.fit.1); have hfa : List.length c.2.2.2.2.1 < 1000000 := by have := hfc.attr; omega
    rcases Classical.em (opC c = 2) with h2 | h2
    · have := hK.rm h2; rw [hff] at this; simp only [Prod.mk.injEq] at this; have hfb := this.2; subst hfb; simp -implicitDefEqProofs [f4, w3, w5, w7, ec, A4, h2]; refine A1 a1 ?_; simp -implicitDefEqProofs [f4]
    rcases Classical.em (opC c = 4) with h4 | h4
    · obtain ⟨a, e1, e2⟩ := hK.put h4; rw [hff, hee] at e1; simp only [Prod.mk.injEq] at e1; obtain ⟨⟨rfl, rfl⟩, rfl⟩ := e1; have hh := hhas _ c.2.2.2.2.2 hfa; rw [decide_eq_true e2] at hh; simp only [G6] at hh; simp -implicitDefEqProofs [f4, w3, w5, w7, ec, A4, h4]; refine A1 hh ?_; simp -implicitDefEqProofs [f4]; refine A1 a1 ?_; simp -implicitDefEqProofs [f4]
    rcases Classical.em (opC c = 5) with h5 | h5
    · obtain ⟨a, e1, e2⟩ := hK.drop h5; rw [hff, hee] at e1; simp only [Prod.mk.injEq] at e1; obtain ⟨⟨rfl, rfl⟩, rfl⟩ := e1; have hh := hhas _ c.2.2.2.2.2 hfa; rw [decide_eq_false e2] at hh; simp only [G6] at hh; simp -implicitDefEqProofs [f4, w3, w5, w7, ec, A4, h5]; refine A1 hh ?_; simp -implicitDefEqProofs [f4]; refine A1 a1 ?_; simp -implicitDefEqProofs [f4]
    have h13 : opC c = 1 ∨ opC c = 3 := by
      have := b4c h00; omega
    obtain ⟨a, e1, e2⟩ := hK.name h13; rw [hff, hee] at e1; simp only [Prod.mk.injEq] at e1; obtain ⟨⟨rfl, rfl⟩, rfl⟩ := e1; simp only [decide_true, G6] at heq; have fnd := fun x hx => b6g (R ++ [c]) x (nmC c) hx hG3
    obtain ⟨⟨ri, rb⟩, hrr⟩ : ∃ p, a0N (R ++ [c]) (nmC c) = p := ⟨_, rfl⟩; rw [hrr] at fnd e2; simp -implicitDefEqProofs [f4, w3, w5, w7, ec, A4, h2, h4, h5]; refine a0c (ds := [.str (nmC c)]) (res := (.tup [.d (.str ri), .d (.bool rb)])) 1000000 s (by omega) (by omega) (by (repeat (first | exact hF4 | refine StF.put ?_ (by omega) | refine StF.setv ?_ (by omega) | refine StF.clean ?_ _))) (enters_of func15 (by kernel_rfl) rfl) fnd rfl (fun τ5 hF5 f5 o5 p5 => ?_); have x3 : τ5 3 = .box (A8 c) := o5.bx (by omega) (by omega) (by simp [w3, ec]); have x7 : τ5 7 = .box (.agg [.str es, .sl (fa.map att)]) := o5.bx (by omega) (by omega) (by simp [w7]); have x9 : τ5 9 = .box (.agg [.str fs, .sl (fa.map att)]) := o5.bx (by omega) (by omega) (by simp [w7]); have x10 : τ5 10 = .d (.bool true) := o5.dd (by omega) (by omega) (by simp [w7]); rcases Classical.em (fs = nmC c) with hn | hn
    · subst hn; simp -implicitDefEqProofs [f5, x3, x7, x9, x10, ec, A4]; refine A1 heq ?_; simp -implicitDefEqProofs [f5, x3, x7, x9, x10, ec, A4]; refine A1 a1 ?_; simp -implicitDefEqProofs [f5]
    · obtain ⟨y, e3, hne⟩ := e2.resolve_left hn; simp only [Prod.mk.injEq] at e3; obtain ⟨rfl, rfl⟩ := e3; simp -implicitDefEqProofs [f5, x3, x7, x9, x10, ec, A4, hn]; refine A1 heq ?_; simp -implicitDefEqProofs [f5, x3, x7, x9, x10, ec, A4, hn, hne]; refine A1 a1 ?_; simp -implicitDefEqProofs [f5]
theorem MergeLatest_ok (l : List Chg) (c : Chg) (hb : D.lims 140737488351232 [G0 l, A8 c]) : Ctr prog 5 [.d (G0 l), .d (A8 c)] (.d (.bool true)) := by
  obtain ⟨h1, _⟩ := hb; exact c0z l c (c1w h1)
end Go.Proofs.Tz