/-
  What the functions that the statements about merged states reach compute, part 6 of 6, for data of bounded size (each theorem states its bound).
-/import Derived.Test.YtnknfnfinhagoaaGreatDoorTp
import Derived.Test.YtnknfnfinhagoaaGreatDoorTm
import Derived.Test.YtnknfnfinhagoaaGreatDoorWk
import Derived.Test.YtnknfnfinhagoaaGreatDoorTo
import Derived.MakeChecks
open Go.Proofs.Tryz
set_option linter.unusedSimpArgs false
set_option linter.unusedVariables false
set_option maxRecDepth 100000
set_option maxHeartbeats 8000000
namespace Go.Proofs.Tz
open Go.Vw Go.RowKit Go.Proofs Go.Sort
theorem b3X : ∀ (l k : List F6), k ≠ [] → P1 l (l ++ k) = -1
  | [], k, h => by cases k with
    | nil => exact absurd rfl h
    | cons x k => rfl
  | p :: l, k, h => by
    simp only [List.cons_append, P1]; rw [if_pos (a3b.2 rfl), b3X l k h]
theorem b3b {s : Str} (h : 1 < T7 (H6 s).1) : a0k (H6 s).1 s < 0 := by
  cases hs : K1 s with
  | none =>
    have : H6 s = ([], false) := by unfold H6; rw [hs]
    rw [this] at h; exact absurd h (by decide)
  | some l =>
    cases l with
    | nil =>
      have : H6 s = ([], false) := by unfold H6; rw [hs]
      rw [this] at h; exact absurd h (by decide)
    | cons p l =>
      obtain ⟨t, h1, h2⟩ := a8E hs; rw [h1]; unfold a0k; rw [h2, hs]; simp only [List.reverse_cons]; rw [b3X _ _ (by simp)]
      decide
theorem c1Y {X : List Str} {s x : Str} : x ∈ b4d X s ↔ x ∈ X ∨ x = s := by
  unfold b4d; split
  · rename_i h
    exact ⟨.inl, fun e => e.elim id fun e => e ▸ h⟩
  · simp
theorem b2j (R : List Chg) (l : List Str) : ∀ id ∈ (H7 R l).2, id ∈ l := by
  refine V8 (P := fun l => ∀ id ∈ (H7 R l).2, id ∈ l) (by simp [H7]) (fun l x ih => ?_) l; intro id hid; rw [a1U] at hid; unfold a0T at hid; split at hid
  · rcases List.mem_append.1 hid with h | h
    · simp [ih _ h]
    · simpa using Or.inr (List.mem_singleton.1 h)
  · simp [ih _ hid]
theorem a6T (R : List Chg) (A : List Str) (x : Str) (hx : x ∉ A) : (x ∈ (H7 R (A ++ [x])).2 ↔ a6w R (H7 R A).1 x = true) ∧ ∀ y, y ≠ x → (y ∈ (H7 R (A ++ [x])).2 ↔ y ∈ (H7 R A).2) := by
  rw [a1U]; unfold a0T; have h0 := fun h => hx (b2j R A x h)
  split
  · rename_i h
    refine ⟨by simp [h], fun y hy => by simp [hy]⟩
  · rename_i h
    refine ⟨iff_of_false h0 h, fun y hy => Iff.rfl⟩
theorem b1P (R : List Chg) (A B : List Str) (hn : (A ++ B).Nodup) : ∀ y ∈ A, (y ∈ (H7 R (A ++ B)).2 ↔ y ∈ (H7 R A).2) := by
  refine V8 (P := fun B => (A ++ B).Nodup → ∀ y ∈ A, (y ∈ (H7 R (A ++ B)).2 ↔ y ∈ (H7 R A).2)) (fun _ y _ => by simp) (fun B b ih => ?_) B hn; intro hn y hy; rw [← List.append_assoc] at hn ⊢; obtain ⟨h1, _, h3⟩ := List.nodup_append.1 hn; rw [(a6T R (A ++ B) b fun hb => h3 b hb b (by simp) rfl).2 y fun e => h3 y (by simp [hy]) b (by simp) e]; exact ih h1 y hy
theorem c2r (R : List Chg) (l : List Str) : l.Nodup → ∀ s, s ∈ (H7 R l).1 ↔ ∃ y ∈ l, D9 R y = s ∧ y ∉ (H7 R l).2 := by
  refine V8 (P := fun l => l.Nodup → ∀ s, s ∈ (H7 R l).1 ↔ ∃ y ∈ l, D9 R y = s ∧ y ∉ (H7 R l).2) (by simp [H7]) (fun l x ih => ?_) l; intro hn s; obtain ⟨h1, _, h3⟩ := List.nodup_append.1 hn; have hx : x ∉ l := fun h => h3 x h x (by simp) rfl
  obtain ⟨o1, o2⟩ := a6T R l x hx; have key : s ∈ (H7 R (l ++ [x])).1 ↔ s ∈ (H7 R l).1 ∨ (a6w R (H7 R l).1 x = false ∧ s = D9 R x) := by
    rw [a1U]; unfold a0T; split
    · rename_i h; simp [h]
    · rename_i h
      rw [c1Y]; simp [h]
  rw [key, ih h1 s]; constructor
  · rintro (⟨y, hy, e, hq⟩ | ⟨hq, e⟩)
    · exact ⟨y, by simp [hy], e, fun h => hq ((o2 y fun e => hx (e ▸ hy)).1 h)⟩
    · exact ⟨x, by simp, e.symm, fun h => by rw [o1.1 h] at hq; cases hq⟩
  · rintro ⟨y, hy, e, hq⟩; rcases List.mem_append.1 hy with hy | hy
    · exact .inl ⟨y, hy, e, fun h => hq ((o2 y fun e => hx (e ▸ hy)).2 h)⟩
    · rw [List.mem_singleton.1 hy] at e hq; refine .inr ⟨?_, e.symm⟩; rw [o1] at hq; simpa using hq
theorem a7D {R : List Chg} {id : Str} : id ∈ P0 R ↔ id ∈ (H7 R (I3 R)).2 := by
  unfold P0 I4; rw [List.mem_mergeSort]
theorem b7o (R : List Chg) : (I3 R).Nodup := (W8 (a8i (D9 R)) (A8 R)).1.nodup_iff.2 (a0c R)
theorem a9t {R : List Chg} {id : Str} (h : id ∈ A8 R) : id ∈ P0 R ↔ 1 < T7 (U8 R id) ∧ ∀ y ∈ A8 R, D9 R y = U8 R id → y ∈ P0 R := by
  obtain ⟨A, B, hAB⟩ := List.append_of_mem (a2m.2 h); have hn := b7o R; have hK : KS (D9 R) (I3 R) := a6j (a0c R); rw [hAB] at hn hK; have hn2 : (A ++ [id]).Nodup ∧ ((A ++ [id]) ++ B).Nodup := by
    have : A ++ id :: B = (A ++ [id]) ++ B := (by simp); rw [this] at hn; exact ⟨(List.nodup_append.1 hn).1, hn⟩
  obtain ⟨hA, _, hA3⟩ := List.nodup_append.1 hn2.1; have hid : id ∉ A := fun q => hA3 id q id (by simp) rfl
  have e1 : id ∈ P0 R ↔ a6w R (H7 R A).1 id = true := by
    rw [a7D, hAB]; have : A ++ id :: B = (A ++ [id]) ++ B := (by simp); rw [this, b1P R (A ++ [id]) B hn2.2 id (by simp)]; exact (a6T R A id hid).1
  have e2 : ∀ y ∈ A, (y ∈ P0 R ↔ y ∈ (H7 R A).2) := fun y hy => by
    rw [a7D, hAB]; exact b1P R A (id :: B) hn y hy
  have e3 : 1 < T7 (U8 R id) → ∀ y ∈ A8 R, D9 R y = U8 R id → y ∈ A := fun hd y hy e => by
    have hlt : cfK (D9 R) y id < 0 := a8q.2 (.inl (by rw [e]; exact b3b hd)); have hy2 : y ∈ A ++ id :: B := by rw [← hAB]; exact a2m.2 hy
    rcases List.mem_append.1 hy2 with h1 | h1
    · exact h1
    · rcases List.mem_cons.1 h1 with rfl | h1
      · exact absurd hlt (a8o _ _)
      · have hK2 := (List.pairwise_append.1 hK).2.1; have := (List.pairwise_cons.1 hK2).1 y h1; exact absurd (a4K this hlt) (a8o _ _)
  rw [e1]; unfold a6w; rw [Bool.and_eq_true, decide_eq_true_eq, Bool.not_eq_true', decide_eq_false_iff_not, c2r R A hA]; refine and_congr_right fun hd => ?_
  constructor
  · intro hq y hy e; have hyA := e3 hd y hy e; rw [e2 y hyA]; exact Classical.byContradiction fun hc => hq ⟨y, hyA, e, hc⟩
  · rintro hq ⟨y, hy, e, hc⟩; have hl : y ∈ A8 R := a2m.1 (by rw [hAB]; simp [hy]); exact hc ((e2 y hy).1 (hq y hl e))
theorem c2k {R : List Chg} {n : Str} (h : (R6 R n).2 = true) : (R6 R n).1 ∈ A8 R ∧ D9 R (R6 R n).1 = n := by
  unfold R6 at *; cases hf : (A8 R).find? (fun x => decide (D9 R x = n)) with
  | none => rw [hf] at h; cases h
  | some x => exact ⟨List.mem_of_find?_eq_some hf, by simpa using List.find?_some hf⟩
structure c0h (R : List Chg) (id : Str) : Prop where
  par : id ∉ P0 R → 1 < T7 (U8 R id) → (R6 R (U8 R id)).2 = true
  dep : id ∈ P0 R → 1 < T7 (U8 R id)
  orp : id ∈ P0 R → (R6 R (U8 R id)).2 = true → (R6 R (U8 R id)).1 ∈ P0 R
  own : (R6 R (D9 R id)).2 = true
  one : U6 R = [] → (R6 R (D9 R id)).1 = id
theorem b9W {R : List Chg} {id : Str} (h : id ∈ A8 R) : c0h R id := by
  refine ⟨fun h1 h2 => ?_, fun h1 => ((a9t h).1 h1).1, fun h1 h2 => ?_, ?_, fun hc => ?_⟩
  · rw [a9t h] at h1; have : ∃ y ∈ A8 R, D9 R y = U8 R id := by
      refine Classical.byContradiction fun hn => h1 ⟨h2, fun y hy e => absurd ⟨y, hy, e⟩ hn⟩
    obtain ⟨y, hy, e⟩ := this; obtain ⟨z, _, _, e2⟩ := a9C hy e; rw [e2]
  · obtain ⟨a, b⟩ := c2k h2; exact ((a9t h).1 h1).2 _ a b
  · obtain ⟨z, _, _, e2⟩ := a9C h rfl; rw [e2]
  · obtain ⟨z, hz, e1, e2⟩ := a9C h rfl; rw [e2]; have ha : ∀ x ∈ A8 R, W9 R x = true := fun x hx => by
      refine Classical.byContradiction fun hn => ?_
      have : x ∈ U6 R := List.mem_filter.2 ⟨hx, by simpa using hn⟩; rw [hc] at this; cases this
    have h1 := ha z hz; have h2 := ha id h; unfold D9 at e1; rw [if_pos h1, if_pos h2] at e1; rw [b3L] at h1 h2; rw [e1] at h1; exact Option.some.inj (h1.symm.trans h2)
theorem b5g {l m : List Str} (h : ∀ x ∈ l, x ∈ m) : a7M l m = true := by
  unfold a7M; rw [List.all_eq_true]; intro x hx; simp [h x hx]
theorem c2u (R : List Chg) : a7M (U6 R) (A8 R) = true := b5g fun x hx => (List.mem_filter.1 hx).1
theorem c2f (R : List Chg) : a7M (P0 R) (A8 R) = true := b5g fun x hx => a2m.1 (b2j R _ x (a7D.1 hx))
theorem b7X {R : List Chg} (h : 0 < (A8 R).length) : (A8 R)[0] ∉ U6 R := by
  intro hm; have := (List.mem_filter.1 hm).2; have ho : W9 R (A8 R)[0] = true := by
    rw [b3L]; obtain ⟨x, l, hl⟩ : ∃ x l, A8 R = x :: l := by
      cases hq : A8 R with
      | nil => rw [hq] at h; simp at h
      | cons x l => exact ⟨x, l, rfl⟩
    simp [hl]
  rw [ho] at this; cases this
theorem c2A {R : List Chg} {i : Nat} (h : i < (A8 R).length) (h0 : 0 < i) : (A8 R)[i - 1] < (A8 R)[i] := (List.pairwise_iff_getElem.1 (b4X R)) (i - 1) i (by omega) h (by omega)
end Go.Proofs.Tz
namespace Go.Proofs.Tz
open Go.Vw
end Go.Proofs.Tz
namespace Go.Proofs.Tz
open Go.Vw Go.RowKit Go.Proofs
theorem c1C {d : D} (h : Sh.Fits (.agg [.int .i64, .int .i64, .int .i64]) d) : ∃ x : Csn, d = B8 x := by
  simp only [Sh.Fits, Sh.FitsL] at h; obtain ⟨ds, rfl, x, xs, rfl, ⟨a, rfl, _⟩, y, ys, rfl, ⟨b, rfl, _⟩, z, zs, rfl, ⟨c, rfl, _⟩, rfl⟩ := h; exact ⟨(a, b, c), rfl⟩
theorem c1v {d : D} (h : Sh.Fits (.agg [.agg [.int .i64, .int .i64, .int .i64], .int .i64, .str, .str, .str, .str]) d) : ∃ x : Chg, d = B0 x := by
  simp only [Sh.Fits, Sh.FitsL] at h; obtain ⟨ds, rfl, n, ns, rfl, hn, o, os, rfl, ⟨ov, rfl, _⟩, i, is, rfl, ⟨iv, rfl, _⟩, m, ms, rfl, ⟨mv, rfl, _⟩, a, az, rfl, ⟨av, rfl, _⟩, v, vs, rfl, ⟨vv, rfl, _⟩, rfl⟩ := h; obtain ⟨c, rfl⟩ := c1C (by simp only [Sh.Fits, Sh.FitsL]; exact hn); exact ⟨(c, ov, iv, mv, av, vv), rfl⟩
theorem fits_chgs {d : D} (h : Sh.Fits (.sl (.agg [.agg [.int .i64, .int .i64, .int .i64], .int .i64, .str, .str, .str, .str])) d) : ∃ x : List Chg, d = O6 x := by
  rw [Sh.Fits] at h; obtain ⟨ds, rfl, _, hd⟩ := h; have key : ∀ (ds : List D), (∀ x ∈ ds, Sh.Fits (.agg [.agg [.int .i64, .int .i64, .int .i64], .int .i64, .str, .str, .str, .str]) x) → ∃ l : List Chg, ds = l.map B0 := by
    intro ds
    induction ds with
    | nil => intro _; exact ⟨[], rfl⟩
    | cons d ds ih =>
      intro h; obtain ⟨x, rfl⟩ := c1v (h d (by simp)); obtain ⟨l, rfl⟩ := ih (fun y hy => h y (by simp [hy])); exact ⟨x :: l, rfl⟩
  obtain ⟨l, rfl⟩ := key ds hd; exact ⟨l, rfl⟩
theorem c2q {l : List Chg} (h : D.lim 140737488351232 (O6 l)) : l.length ≤ 140737488351232 := by
  simpa [O6, D.lim] using h.1
end Go.Proofs.Tz
namespace Go.Proofs.Tz
open Go.Vw Go.RowKit Go.Proofs Go.Sort
def NnI (l : List Chg) (s : Nat) (k : Nat) (τ : St) : Prop := τ 0 = .d (O6 l) ∧ τ 3 = .d (.raw (va s)) ∧ τ 4 = .d (.int .i64 k) ∧ StF τ 1000000 s (ofR [] (l.take k))
def NnJ (R : List Chg) (s : Nat) (V C O : List Str) (k : Nat) (τ : St) : Prop := τ 3 = .d (.raw (va s)) ∧ τ 5 = .d (B6 V) ∧ τ 6 = .d (B6 C) ∧ τ 7 = .d (B6 O) ∧ τ 8 = .d (.int .i64 k) ∧ StF τ 1000000 s R
theorem b6Y (l : List Chg) (hl : l.length ≤ 140737488351232) : Ctr prog 6 [.d (O6 l)] (.d (.bool true)) := by
  have a1 := c0U; have s1 := c1U l hl; simp only [O6] at s1; refine fv (fun i => i == 5000021 || i == 5000035 || i == 5000037 || i == 5000039 || i == 5000041 || i == 5000043 || i == 5000060 || i == 5000072 || i == 5000136) func6 (by kernel_rfl) rfl rfl rfl rfl rfl ?_; rcases Classical.em (a3R l = true) with q1 | q1
  case inr =>
    have q1' : a3R l = false := (by simpa using q1); rw [q1'] at s1; simp -implicitDefEqProofs [O6]; refine A1 s1 ?_; simp -implicitDefEqProofs [O6]; refine A1 a1 ?_; simp -implicitDefEqProofs [O6]
  rw [q1] at s1; obtain ⟨hl14, hfl⟩ := b9n q1; simp -implicitDefEqProofs [O6]; refine A1 s1 ?_; simp -implicitDefEqProofs [O6]; refine c4L 1000000 (Nat.le_refl _) (by omega) (fun s τ1 hF1 f1 o1 p1 => ?_); have t10 : τ1 0 = .d (O6 l) := o1.dd (by omega) (by omega) (by simp [O6]); simp -implicitDefEqProofs [f1, t10]; refine H2 l.length (NnI l s) ⟨by simp [t10], by simp, by simp, (by (repeat (first | exact hF1 | refine StF.put ?_ (by omega) | refine StF.setv ?_ (by omega) | refine StF.clean ?_ _)))⟩ ?_; clear f1 t10 o1 p1 hF1 s1; rintro k τ hk ⟨h0, h3, h4, hF⟩; rcases Nat.lt_or_ge k l.length with hlt | hlt
  · have hlt' : (k : Int) < l.length := (by omega); obtain ⟨x, hx⟩ : ∃ x, l[k] = x := ⟨_, rfl⟩; have hfx : S4 x := by rw [← hx]; exact hfl _ (gmm _)
    have ex : B0 x = .agg [B8 x.1, .int .i64 (opC x), .str (idC x), .str x.2.2.2.1, .str x.2.2.2.2.1, .str x.2.2.2.2.2] := rfl; have hR2 : ofR [] (l.take (k + 1)) = Y1 (ofR [] (l.take k)) x := by rw [J0 hlt, hx]; simp [ofR]
    simp -implicitDefEqProofs [h0, h3, h4, hlt, hlt', O6, hx, ex, A7]; rw [← ex]; refine b9k (R := ofR [] (l.take k)) 1000000 s (by omega) (by omega) (by (repeat (first | exact hF | refine StF.put ?_ (by omega) | refine StF.setv ?_ (by omega) | refine StF.clean ?_ _))) hfx (fun τ3 hF3 f3 o3 p3 => ?_); rw [← hR2] at hF3; have u0 : τ3 0 = .d (O6 l) := o3.dd (by omega) (by omega) (by simp [h0]); have u3 : τ3 3 = .d (.raw (va s)) := o3.dd (by omega) (by omega) (by simp [h3]); have u4 : τ3 4 = .d (.int .i64 k) := o3.dd (by omega) (by omega) (by simp [h4]); simp -implicitDefEqProofs [u0, u3, u4]; exact ⟨by omega, D7 hlt ⟨by simp [u0], by simp [u3], by simp, (by (repeat (first | exact hF3 | refine StF.put ?_ (by omega) | refine StF.setv ?_ (by omega) | refine StF.clean ?_ _)))⟩⟩
  have hlt' : ¬ (k : Int) < l.length := (by omega); have hlt'' : ¬ k < l.length := (by omega); rw [ttl hlt] at hF; generalize ofR [] l = R at *; have hG := a9k hF.1; have liv : ∀ x, StD R x → Ctr prog 27 [.d x] (.d (B6 (A8 R))) := fun x hx => a1m (a3J R x hx hG.lt)
  have con : ∀ x, StD R x → Ctr prog 28 [.d x] (.d (B6 (U6 R))) := fun x hx => a1m (a3M R x hx hG)
  have orp : ∀ x, StD R x → Ctr prog 29 [.d x] (.d (B6 (P0 R))) := fun x hx => a1m (a9X R x hx hG)
  have hen : ∀ x, StD R x → Ctr prog 30 [.d x] (.d (.sl ((a0C R).map a1w))) := fun x hx => a1m (b0i R x hx hG)
  have hme := b4q (a0C R); have hel : ((a0C R).map a1w).length = (A8 R).length := (by simp [a0C, a4j]); have hml : ∀ l : List Str, U4 (.d (B6 l)) = true := a9c; have hll := a0u R; have hlv := hG.lt; have hVl : (A8 R).length < 1000000 := (by omega); have hCl : (U6 R).length < 1000000 := by
    have : (U6 R).length ≤ (A8 R).length := List.length_filter_le _ _; omega
  have hOl : (P0 R).length < 1000000 := by
    have h3 := a7u R (I3 R); have h4 := a4j (R := R); unfold P0 I4; rw [List.length_mergeSort]; omega
  have sb1 := b0Z (U6 R) (A8 R) hCl hVl; have sb2 := b0Z (P0 R) (A8 R) hOl hVl; rw [c2u] at sb1; rw [c2f] at sb2; have cnO : ∀ x, _ := fun x => a4i (P0 R) x hOl
  have cnC : ∀ x, _ := fun x => a4i (U6 R) x hCl
  have hfst : ∀ h : 0 < (A8 R).length, (A8 R)[0] ∉ U6 R := b7X; have hasc : ∀ i (h : i < (A8 R).length), 0 < i → (A8 R)[i - 1]'(by omega) < (A8 R)[i] := fun i h h0 => c2A h h0
  have hnl : ∀ id ∈ A8 R, c0h R id := fun id h => b9W h
  have hen1 : ∀ id ∈ A8 R, O7 R id = ((D9 R id, a1d R id), true) := fun id h => b8c h
  have hsl : ∀ id ∈ A8 R, List.length (D9 R id) < 900000 := fun id h => a6I (hG.name id h)
  obtain ⟨V, hV⟩ : ∃ V, A8 R = V := ⟨_, rfl⟩; obtain ⟨C, hC⟩ : ∃ C, U6 R = C := ⟨_, rfl⟩; obtain ⟨O, hO⟩ : ∃ O, P0 R = O := ⟨_, rfl⟩; simp only [hV] at liv hel hVl sb1 sb2 hfst hasc hnl hen1 hsl; simp only [hC] at con hCl sb1 cnC hfst; simp only [hO] at orp hOl sb2 cnO; generalize (a0C R).map a1w = EL at *; simp only [B6] at sb1 sb2 cnO cnC; simp -implicitDefEqProofs [h0, h3, h4, hlt', hlt'', O6]; refine Q2 (ds := []) (res := (.d (B6 V))) 1000000 s (by omega) (by omega) (by (repeat (first | exact hF | refine StF.put ?_ (by omega) | refine StF.setv ?_ (by omega) | refine StF.clean ?_ _))) (enters_of func27 (by kernel_rfl) rfl) liv (hml _) (fun τ2 hF2 f2 o2 p2 => ?_); have u3 : τ2 3 = .d (.raw (va s)) := o2.dd (by omega) (by omega) (by simp [h3]); simp -implicitDefEqProofs [f2, u3]; refine Q2 (ds := []) (res := (.d (B6 C))) 1000000 s (by omega) (by omega) (by (repeat (first | exact hF2 | refine StF.put ?_ (by omega) | refine StF.setv ?_ (by omega) | refine StF.clean ?_ _))) (enters_of func28 (by kernel_rfl) rfl) con (hml _) (fun τ3 hF3 f3 o3 p3 => ?_); have v3 : τ3 3 = .d (.raw (va s)) := o3.dd (by omega) (by omega) (by simp [u3]); have v37 : τ3 37 = .d (B6 V) := o3.dd (by omega) (by omega) (by simp [f2]); simp -implicitDefEqProofs [f3, v3, v37]; refine Q2 (ds := []) (res := (.d (B6 O))) 1000000 s (by omega) (by omega) (by (repeat (first | exact hF3 | refine StF.put ?_ (by omega) | refine StF.setv ?_ (by omega) | refine StF.clean ?_ _))) (enters_of func29 (by kernel_rfl) rfl) orp (hml _) (fun τ4 hF4 f4 o4 p4 => ?_); have w3 : τ4 3 = .d (.raw (va s)) := o4.dd (by omega) (by omega) (by simp [v3]); have w37 : τ4 37 = .d (B6 V) := o4.dd (by omega) (by omega) (by simp [v37]); have w39 : τ4 39 = .d (B6 C) := o4.dd (by omega) (by omega) (by simp [f3]); simp -implicitDefEqProofs [f4, w3, w37, w39]; refine Q2 (ds := []) (res := (.d (.sl EL))) 1000000 s (by omega) (by omega) (by (repeat (first | exact hF4 | refine StF.put ?_ (by omega) | refine StF.setv ?_ (by omega) | refine StF.clean ?_ _))) (enters_of func30 (by kernel_rfl) rfl) hen hme (fun τ5 hF5 f5 o5 p5 => ?_); have x3 : τ5 3 = .d (.raw (va s)) := o5.dd (by omega) (by omega) (by simp [w3]); have x5 : τ5 5 = .d (B6 V) := o5.dd (by omega) (by omega) (by simp [w37]); have x6 : τ5 6 = .d (B6 C) := o5.dd (by omega) (by omega) (by simp [w37]); have x7 : τ5 7 = .d (B6 O) := o5.dd (by omega) (by omega) (by simp [w37]); simp -implicitDefEqProofs [f5, x3, x5, x6, x7, hel, B6]; refine H2 V.length (NnJ R s V C O) ⟨by simp [x3], by simp [x5, B6], by simp [x6, B6], by simp [x7, B6], by simp, (by (repeat (first | exact hF5 | refine StF.put ?_ (by omega) | refine StF.setv ?_ (by omega) | refine StF.clean ?_ _)))⟩ ?_; clear f5 x3 x5 x6 x7 f4 w3 w37 w39 f3 v3 v37 f2 u3 hF2 hF3 hF4 hF5 o2 o3 o4 o5 p2 p3 p4 p5 h0 h3 h4 hF; rintro i τ hi ⟨h3, h5, h6, h7, h8, hF⟩; rcases Nat.lt_or_ge i V.length with hil | hil
  · have hil' : (i : Int) < V.length := (by omega); obtain ⟨id, hx⟩ : ∃ x, V[i] = x := ⟨_, rfl⟩; have hid : id ∈ V := by rw [← hx]; exact gmm _
    have hK := hnl id hid; have hsh := hsl id hid; have en : ∀ x, StD R x → _ := fun x hx => b3y R x id hx hG
    rw [hen1 id hid] at en; have hE2 : ∀ s a, a1R s a = .agg [.str s, .sl (a.map att)] := fun _ _ => rfl
    have dp := b9x (D9 R id) hsh; have fn1 := fun x hx => b1f R x (U8 R id) hx hG
    have fn2 := fun x hx => b1f R x (D9 R id) hx hG
    have kp := hK.par; have kd := hK.dep; have ko := hK.orp; have kw := hK.own; have k1 := hK.one; have hprev : 0 < i → Op.bytesLess (V[i - 1]'(by omega)) id = true := fun h0 => by
      have := hasc i hil h0; rw [hx] at this; exact c1s.2 this
    rw [hC] at k1; rw [hO] at kp kd ko; have hpe : (H6 (D9 R id)).1 = U8 R id := rfl; rw [hpe] at dp; generalize D9 R id = n at *; generalize a1d R id = at_ at *; generalize U8 R id = pn at *; obtain ⟨dv, hdv⟩ : ∃ x, T7 pn = x := ⟨_, rfl⟩; rw [hdv] at dp kp kd; obtain ⟨⟨ri, rb⟩, hrr⟩ : ∃ p, R6 R pn = p := ⟨_, rfl⟩; obtain ⟨⟨wi, wb⟩, hww⟩ : ∃ p, R6 R n = p := ⟨_, rfl⟩; rw [hrr] at fn1 kp ko; rw [hww] at fn2 kw k1; simp only at kp ko kw k1 fn1 fn2; subst kw; simp -implicitDefEqProofs [h3, h5, h6, h7, h8, hil, hil', B6, hx]; refine Q2 (ds := [.str id]) (res := _) 1000000 s (by omega) (by omega) (by (repeat (first | exact hF | refine StF.put ?_ (by omega) | refine StF.setv ?_ (by omega) | refine StF.clean ?_ _))) (enters_of func21 (by kernel_rfl) rfl) en (a8g _ _ _) (fun τ2 hF2 f2 o2 p2 => ?_); simp only [hE2] at f2; have u3 : τ2 3 = .d (.raw (va s)) := o2.dd (by omega) (by omega) (by simp [h3]); have u5 : τ2 5 = .d (B6 V) := o2.dd (by omega) (by omega) (by simp [h5]); have u6 : τ2 6 = .d (B6 C) := o2.dd (by omega) (by omega) (by simp [h6]); have u7 : τ2 7 = .d (B6 O) := o2.dd (by omega) (by omega) (by simp [h7]); have u8 : τ2 8 = .d (.int .i64 i) := o2.dd (by omega) (by omega) (by simp [h8]); simp -implicitDefEqProofs [f2, u3, u5, u6, u7, u8, B6]; refine A1 dp ?_; simp -implicitDefEqProofs [f2, u3, u5, u6, u7, u8, B6]; refine Q2 (ds := [.str pn]) (res := (.tup [.d (.str ri), .d (.bool rb)])) 1000000 s (by omega) (by omega) (by (repeat (first | exact hF2 | refine StF.put ?_ (by omega) | refine StF.setv ?_ (by omega) | refine StF.clean ?_ _))) (enters_of func15 (by kernel_rfl) rfl) fn1 rfl (fun τ3 hF3 f3 o3 p3 => ?_); have v3 : τ3 3 = .d (.raw (va s)) := o3.dd (by omega) (by omega) (by simp [u3]); have v5 : τ3 5 = .d (B6 V) := o3.dd (by omega) (by omega) (by simp [u5]); have v6 : τ3 6 = .d (B6 C) := o3.dd (by omega) (by omega) (by simp [u6]); have v7 : τ3 7 = .d (B6 O) := o3.dd (by omega) (by omega) (by simp [u7]); have v8 : τ3 8 = .d (.int .i64 i) := o3.dd (by omega) (by omega) (by simp [u8]); have v9 : τ3 9 = .box (.agg [.str n, .sl (at_.map att)]) := o3.bx (by omega) (by omega) (by simp [u8]); have v10 : τ3 10 = .d (.bool true) := o3.dd (by omega) (by omega) (by simp [u8]); have v11 : τ3 11 = .d (.int .i64 dv) := o3.dd (by omega) (by omega) (by simp [u8]); have c1 := cnO id; have c2 := cnO ri; rcases Nat.eq_zero_or_pos i with hi0 | hi0
    case' inl =>
      have hi0' : ¬ 0 < i := (by omega); simp -implicitDefEqProofs [f3, v3, v5, v6, v7, v8, v9, v10, v11, B6, hi0', hil, hil', hx]
    case' inr =>
      have b1 : (-9223372036854775808 : Int) ≤ (i : Int) - 1 := (by omega); have b2 : (i : Int) - 1 ≤ 9223372036854775807 := (by omega); have b3 : (1 : Int) ≤ i := (by omega); have hq : V[i - 1]? = some (V[i - 1]'(by omega)) := List.getElem?_eq_getElem (by omega); have hbl := hprev hi0; generalize V[i - 1]'(by omega) = pv at hq hbl; simp -implicitDefEqProofs [f3, v3, v5, v6, v7, v8, v9, v10, v11, B6, hi0, b1, b2, b3, hq, hbl, hil, hil', hx]
    all_goals
      refine A1 c1 ?_; rcases Classical.em (id ∈ O) with hO1 | hO1
      · have hd := kd hO1; have hd' : (1 : Int) < (dv : Int) := (by omega); have hd2 : ¬ (dv : Int) ≤ 1 := (by omega); have ko := ko hO1; simp -implicitDefEqProofs [f3, v3, v5, v6, v7, v8, v9, v10, v11, B6, hil, hil', hx, hO1, hd', hd2]; refine A1 c1 ?_; cases rb
        · simp -implicitDefEqProofs [f3, v3, v5, v6, v7, v8, v9, v10, v11, B6, hil, hil', hx, hO1, hd', hd2]; refine Q2 (ds := [.str n]) (res := (.tup [.d (.str wi), .d (.bool true)])) 1000000 s (by omega) (by omega) (by (repeat (first | exact hF3 | refine StF.put ?_ (by omega) | refine StF.setv ?_ (by omega) | refine StF.clean ?_ _))) (enters_of func15 (by kernel_rfl) rfl) fn2 rfl (fun τ4 hF4 f4 o4 p4 => ?_); have w3 : τ4 3 = .d (.raw (va s)) := o4.dd (by omega) (by omega) (by simp [v3]); have w5 : τ4 5 = .d (B6 V) := o4.dd (by omega) (by omega) (by simp [v5]); have w6 : τ4 6 = .d (B6 C) := o4.dd (by omega) (by omega) (by simp [v6]); have w7 : τ4 7 = .d (B6 O) := o4.dd (by omega) (by omega) (by simp [v7]); have w8 : τ4 8 = .d (.int .i64 i) := o4.dd (by omega) (by omega) (by simp [v8]); rcases Classical.em (C = []) with hC0 | hC0
          · have k1 := k1 hC0; simp -implicitDefEqProofs [f4, w3, w5, w6, w7, w8, B6, hil, hil', hx, hC0, k1]; exact ⟨by omega, D7 hil ⟨by simp [w3], by simp [w5, B6], by simp [w6, B6, hC0], by simp [w7, B6], by simp, (by (repeat (first | exact hF4 | refine StF.put ?_ (by omega) | refine StF.setv ?_ (by omega) | refine StF.clean ?_ _)))⟩⟩
          · simp -implicitDefEqProofs [f4, w3, w5, w6, w7, w8, B6, hil, hil', hx, hC0]; exact ⟨by omega, D7 hil ⟨by simp [w3], by simp [w5, B6], by simp [w6, B6], by simp [w7, B6], by simp, (by (repeat (first | exact hF4 | refine StF.put ?_ (by omega) | refine StF.setv ?_ (by omega) | refine StF.clean ?_ _)))⟩⟩
        · have ko := ko rfl; simp -implicitDefEqProofs [f3, v3, v5, v6, v7, v8, v9, v10, v11, B6, hil, hil', hx, hO1, hd', hd2]; refine A1 c2 ?_; simp -implicitDefEqProofs [f3, v3, v5, v6, v7, v8, v9, v10, v11, B6, hil, hil', hx, hO1, hd', hd2, ko]; refine Q2 (ds := [.str n]) (res := (.tup [.d (.str wi), .d (.bool true)])) 1000000 s (by omega) (by omega) (by (repeat (first | exact hF3 | refine StF.put ?_ (by omega) | refine StF.setv ?_ (by omega) | refine StF.clean ?_ _))) (enters_of func15 (by kernel_rfl) rfl) fn2 rfl (fun τ4 hF4 f4 o4 p4 => ?_); have w3 : τ4 3 = .d (.raw (va s)) := o4.dd (by omega) (by omega) (by simp [v3]); have w5 : τ4 5 = .d (B6 V) := o4.dd (by omega) (by omega) (by simp [v5]); have w6 : τ4 6 = .d (B6 C) := o4.dd (by omega) (by omega) (by simp [v6]); have w7 : τ4 7 = .d (B6 O) := o4.dd (by omega) (by omega) (by simp [v7]); have w8 : τ4 8 = .d (.int .i64 i) := o4.dd (by omega) (by omega) (by simp [v8]); rcases Classical.em (C = []) with hC0 | hC0
          · have k1 := k1 hC0; simp -implicitDefEqProofs [f4, w3, w5, w6, w7, w8, B6, hil, hil', hx, hC0, k1]; exact ⟨by omega, D7 hil ⟨by simp [w3], by simp [w5, B6], by simp [w6, B6, hC0], by simp [w7, B6], by simp, (by (repeat (first | exact hF4 | refine StF.put ?_ (by omega) | refine StF.setv ?_ (by omega) | refine StF.clean ?_ _)))⟩⟩
          · simp -implicitDefEqProofs [f4, w3, w5, w6, w7, w8, B6, hil, hil', hx, hC0]; exact ⟨by omega, D7 hil ⟨by simp [w3], by simp [w5, B6], by simp [w6, B6], by simp [w7, B6], by simp, (by (repeat (first | exact hF4 | refine StF.put ?_ (by omega) | refine StF.setv ?_ (by omega) | refine StF.clean ?_ _)))⟩⟩
      · have kp := kp hO1; rcases Classical.em (1 < dv) with hd | hd
        · have hd' : (1 : Int) < (dv : Int) := (by omega); have kp := kp hd; subst kp; simp -implicitDefEqProofs [f3, v3, v5, v6, v7, v8, v9, v10, v11, B6, hil, hil', hx, hO1, hd']; refine A1 c1 ?_; simp -implicitDefEqProofs [f3, v3, v5, v6, v7, v8, v9, v10, v11, B6, hil, hil', hx, hO1]; refine Q2 (ds := [.str n]) (res := (.tup [.d (.str wi), .d (.bool true)])) 1000000 s (by omega) (by omega) (by (repeat (first | exact hF3 | refine StF.put ?_ (by omega) | refine StF.setv ?_ (by omega) | refine StF.clean ?_ _))) (enters_of func15 (by kernel_rfl) rfl) fn2 rfl (fun τ4 hF4 f4 o4 p4 => ?_); have w3 : τ4 3 = .d (.raw (va s)) := o4.dd (by omega) (by omega) (by simp [v3]); have w5 : τ4 5 = .d (B6 V) := o4.dd (by omega) (by omega) (by simp [v5]); have w6 : τ4 6 = .d (B6 C) := o4.dd (by omega) (by omega) (by simp [v6]); have w7 : τ4 7 = .d (B6 O) := o4.dd (by omega) (by omega) (by simp [v7]); have w8 : τ4 8 = .d (.int .i64 i) := o4.dd (by omega) (by omega) (by simp [v8]); rcases Classical.em (C = []) with hC0 | hC0
          · have k1 := k1 hC0; simp -implicitDefEqProofs [f4, w3, w5, w6, w7, w8, B6, hil, hil', hx, hC0, k1]; exact ⟨by omega, D7 hil ⟨by simp [w3], by simp [w5, B6], by simp [w6, B6, hC0], by simp [w7, B6], by simp, (by (repeat (first | exact hF4 | refine StF.put ?_ (by omega) | refine StF.setv ?_ (by omega) | refine StF.clean ?_ _)))⟩⟩
          · simp -implicitDefEqProofs [f4, w3, w5, w6, w7, w8, B6, hil, hil', hx, hC0]; exact ⟨by omega, D7 hil ⟨by simp [w3], by simp [w5, B6], by simp [w6, B6], by simp [w7, B6], by simp, (by (repeat (first | exact hF4 | refine StF.put ?_ (by omega) | refine StF.setv ?_ (by omega) | refine StF.clean ?_ _)))⟩⟩
        · have hd' : ¬ (1 : Int) < (dv : Int) := (by omega); simp -implicitDefEqProofs [f3, v3, v5, v6, v7, v8, v9, v10, v11, B6, hil, hil', hx, hO1, hd']; refine A1 c1 ?_; simp -implicitDefEqProofs [f3, v3, v5, v6, v7, v8, v9, v10, v11, B6, hil, hil', hx, hO1]; refine Q2 (ds := [.str n]) (res := (.tup [.d (.str wi), .d (.bool true)])) 1000000 s (by omega) (by omega) (by (repeat (first | exact hF3 | refine StF.put ?_ (by omega) | refine StF.setv ?_ (by omega) | refine StF.clean ?_ _))) (enters_of func15 (by kernel_rfl) rfl) fn2 rfl (fun τ4 hF4 f4 o4 p4 => ?_); have w3 : τ4 3 = .d (.raw (va s)) := o4.dd (by omega) (by omega) (by simp [v3]); have w5 : τ4 5 = .d (B6 V) := o4.dd (by omega) (by omega) (by simp [v5]); have w6 : τ4 6 = .d (B6 C) := o4.dd (by omega) (by omega) (by simp [v6]); have w7 : τ4 7 = .d (B6 O) := o4.dd (by omega) (by omega) (by simp [v7]); have w8 : τ4 8 = .d (.int .i64 i) := o4.dd (by omega) (by omega) (by simp [v8]); rcases Classical.em (C = []) with hC0 | hC0
          · have k1 := k1 hC0; simp -implicitDefEqProofs [f4, w3, w5, w6, w7, w8, B6, hil, hil', hx, hC0, k1]; exact ⟨by omega, D7 hil ⟨by simp [w3], by simp [w5, B6], by simp [w6, B6, hC0], by simp [w7, B6], by simp, (by (repeat (first | exact hF4 | refine StF.put ?_ (by omega) | refine StF.setv ?_ (by omega) | refine StF.clean ?_ _)))⟩⟩
          · simp -implicitDefEqProofs [f4, w3, w5, w6, w7, w8, B6, hil, hil', hx, hC0]; exact ⟨by omega, D7 hil ⟨by simp [w3], by simp [w5, B6], by simp [w6, B6], by simp [w7, B6], by simp, (by (repeat (first | exact hF4 | refine StF.put ?_ (by omega) | refine StF.setv ?_ (by omega) | refine StF.clean ?_ _)))⟩⟩
  · have hil' : ¬ (i : Int) < V.length := (by omega); have hil'' : ¬ i < V.length := (by omega); rcases Nat.eq_zero_or_pos V.length with hz | hz
    · have hz2 : V = [] := List.length_eq_zero_iff.1 hz; simp -implicitDefEqProofs [h3, h5, h6, h7, h8, hil', hil'', B6]; refine A1 sb1 ?_; simp -implicitDefEqProofs [h3, h5, h6, h7, h8, hil', hil'', B6]; refine A1 sb2 ?_; simp -implicitDefEqProofs [h3, h5, h6, h7, h8, hil', hil'', B6, hz2]; refine A1 a1 ?_; simp -implicitDefEqProofs [h3]
    · have hf := hfst hz; have hz2 : ¬ V = [] := fun e => by rw [e] at hz; simp at hz
      have hz3 : V[0]? = some V[0] := List.getElem?_eq_getElem hz; obtain ⟨v0, hv0⟩ : ∃ x, V[0] = x := ⟨_, rfl⟩; rw [hv0] at hz3 hf; have c3 := cnC v0; rw [decide_eq_false hf] at c3; simp -implicitDefEqProofs [h3, h5, h6, h7, h8, hil', hil'', B6]; refine A1 sb1 ?_; simp -implicitDefEqProofs [h3, h5, h6, h7, h8, hil', hil'', B6]; refine A1 sb2 ?_; simp -implicitDefEqProofs [h3, h5, h6, h7, h8, hil', hil'', B6, hz2, hz, hz3, hv0]; refine A1 c3 ?_; simp -implicitDefEqProofs [h3, h5, h6, h7, h8, hil', hil'', B6, hz2]; refine A1 a1 ?_; simp -implicitDefEqProofs [h3]
theorem MergeNames_ok (l : List Chg) (hb : D.lims 140737488351232 [O6 l]) : Ctr prog 6 [.d (O6 l)] (.d (.bool true)) := by
  obtain ⟨h1, _⟩ := hb; exact b6Y l (c2q h1)
end Go.Proofs.Tz