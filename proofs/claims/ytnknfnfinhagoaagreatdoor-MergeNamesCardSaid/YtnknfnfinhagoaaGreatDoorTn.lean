/-
  What the functions that the statements about merged states reach compute, part 3 of 6, for data of bounded size (each theorem states its bound).
-/import Derived.Test.YtnknfnfinhagoaaGreatDoorTm
import Derived.Test.YtnknfnfinhagoaaGreatDoorTl
import Derived.Lib.MakeNoZero
import Derived.Laws.IdiomCopy
import Derived.Test.YtnknfnfinhagoaaGreatDoorWk
import Derived.Sort.Walk0
import Derived.Shelf.SlSortCmp.WholeK
import Derived.Shelf.SlSortCmp.Whole1
import Derived.Shelf.SlSortCmp.NoneTotal
import Derived.Shelf.SlicesG.Cmp
import Derived.Shelf.SlicesG.CompactS
import Derived.Shelf.SlicesG.Delete
import Derived.Shelf.SortM.Plain
import Derived.Shelf.SortM.SortNone
import Derived.Shelf.SlLaysM
import Derived.Shelf.SlLaysF
import Derived.Shelf.SlLaysF0
import Derived.Shelf.SlLaysN
import Derived.Shelf.SlLaysW
import Derived.Shelf.SlLaysZ
import Derived.Shelf.SlGeneric
import Derived.Ground.SlgmProg
import Derived.Ground.SlgnProg
import Derived.Ground.SlsfProg
import Derived.Ground.SlmcProg
import Derived.Ground.GgzProg
import Derived.Test.YtnknfnfinhagoaaGreatDoorProg
import Derived.WalkKit
import Derived.Lib.RowBridge
open Go.Proofs.Tryz
set_option linter.unusedSimpArgs false
set_option linter.unusedVariables false
set_option maxRecDepth 100000
set_option maxHeartbeats 8000000
namespace Go.Proofs.Tz
open Go.Vw Go.RowKit Go.Proofs
def a5E (l : List F6) : Prop := l.length < 1000000 ∧ ∀ p ∈ l, List.length p.1 < 1000000 ∧ List.length p.2 < 1000000
theorem a9a {l : List F6} {k : Nat} (h : k < l.length) : W3 (l.drop k) = if N3 l[k] = 0 then W3 (l.drop (k + 1)) else N3 l[k] := by
  rw [Z7 h]; rfl
theorem a5w {p : F6} : N3 p = 0 ↔ M0 p.1 = true ∧ J7 p.2 = true := by
  unfold N3; by_cases h1 : M0 p.1 = true <;> by_cases h2 : J7 p.2 = true <;> simp [h1, h2]
theorem a4x {s : Str} (h : M0 s = true) : s.length ≤ 64 := by
  simp only [M0, Bool.and_eq_true, decide_eq_true_eq] at h; exact h.1.1.2
theorem a3A {s : Str} (h : J7 s = true) : s.length ≤ 256 := by
  simp only [J7, Bool.and_eq_true, decide_eq_true_eq] at h; exact h.1.1.1.2
theorem c0e (l : List F6) (hl : a5E l) : Ctr prog 166 [.d (G1 l)] (.d (.int .i64 (V3 l))) := by
  refine fv (fun _ => false) func166 (by kernel_rfl) rfl rfl rfl rfl rfl ?_; obtain ⟨R, hR⟩ : ∃ R, V3 l = R := ⟨_, rfl⟩; rw [hR]; have hl1 := hl.1; simp -implicitDefEqProofs [G1]; refine H2 l.length (fun k τ => τ 0 = .d (.sl (l.map F9)) ∧ τ 5 = .d (.sl (l.map F9)) ∧ τ 6 = .d (.int .i64 l.length) ∧ τ 7 = .d (.int .i64 k) ∧ W3 l = W3 (l.drop k)) ⟨by simp, by simp, by simp, by simp, by simp⟩ ?_; rintro k τ hk ⟨h0, h5, h6, h7, hI⟩; by_cases hlt : k < l.length
  · have hlt' : (k : Int) < l.length := (by omega); obtain ⟨f1, f2⟩ := hl.2 l[k] (gmm hlt); rw [a9a hlt] at hI; generalize hp : l[k] = p at *; obtain ⟨n, v⟩ := p; have c1 := a9j n f1; have c2 := a7G v f2; rw [a7J] at c2; simp -implicitDefEqProofs [h0, h5, h6, h7, hlt, hlt', hp, F9]; refine A1 c1 ?_; by_cases hn : M0 n = true
    · simp -implicitDefEqProofs [h0, h5, h6, h7, hn]; refine A1 c2 ?_; by_cases hc : J7 v = true
      · have e : N3 (n, v) = 0 := a5w.2 ⟨hn, hc⟩; rw [if_pos e] at hI; simp -implicitDefEqProofs [h0, h5, h6, h7, hc]; (repeat refine ai (by omega) ?_); exact D7 hlt ⟨by simp [h0], by simp [h5], by simp [h6], by simp, hI⟩
      · have e : N3 (n, v) = 8 := (by simp [N3, hn, hc]); rw [e, if_neg (by omega)] at hI; have hq : R = 8 := by rw [← hR, V3, hI, if_neg (by omega)]
        simp -implicitDefEqProofs [h0, h5, h6, h7, hc, hq]
    · have e : N3 (n, v) = 5 := (by simp [N3, hn]); rw [e, if_neg (by omega)] at hI; have hq : R = 5 := by rw [← hR, V3, hI, if_neg (by omega)]
      simp -implicitDefEqProofs [h0, h5, h6, h7, hn, hq]
  · have hlt' : ¬ (k : Int) < l.length := (by omega); rw [List.drop_eq_nil_of_le (by omega), W3] at hI; rw [V3, if_pos hI] at hR; by_cases h8 : 8 < l.length
    · have h8' : (8 : Int) < l.length := (by omega); rw [if_pos h8] at hR; simp -implicitDefEqProofs [h0, h5, h6, h7, hlt', h8', ← hR]
    · have h8' : ¬ (8 : Int) < l.length := (by omega); rw [if_neg h8] at hR; simp -implicitDefEqProofs [h0, h5, h6, h7, hlt', h8', ← hR]
theorem b0z (c : UInt8) (p : Str) : ∀ (l : List Str), D8 c (l ++ [p]) = if l = [] then p else D8 c l ++ c :: p
  | [] => rfl
  | [q] => rfl
  | q :: r :: l => by
    have ih := b0z c p (r :: l); rw [if_neg (by simp)] at ih; rw [if_neg (by simp)]; have e1 : D8 c (q :: r :: l ++ [p]) = q ++ c :: D8 c (r :: l ++ [p]) := rfl; have e2 : D8 c (q :: r :: l) = q ++ c :: D8 c (r :: l) := rfl; rw [e1, e2, ih]; simp
def Z8 (l : List F6) (k : Nat) : Str := D8 44 ((l.take k).map V5)
def V0 (l : List F6) (k : Nat) (n : Str) : Str := (if k = 0 then [] else Z8 l k ++ [44]) ++ (D6 n ++ [61])
theorem a2Q (l : List F6) : Z8 l 0 = [] := by simp [Z8, D8]
theorem a7e {l : List F6} {k : Nat} (h : k < l.length) : Z8 l (k + 1) = V0 l k l[k].1 ++ P4 (S3 l[k].2) := by
  rw [Z8, J0 h, List.map_append, List.map_cons, List.map_nil, b0z, V0, Z8]; by_cases hk : k = 0
  · subst hk; simp [V5]
  · rw [if_neg hk, if_neg]
    · simp [V5]
    · intro e; have := congrArg List.length e; simp only [List.length_map, List.length_take, List.length_nil] at this; omega
theorem b4U (l : List F6) {k : Nat} (h : ¬ k < l.length) : Z8 l k = D8 44 (l.map V5) := by
  have e : l.take k = l := ttl (by omega); rw [Z8, e]
theorem c0a (a : Str) (c : UInt8) : P4 (a ++ [c]) = P4 a ++ (if O5 c = true then [92, c] else [c]) := by simp [P4]
theorem a4G {s : Str} {k : Nat} (h : k < s.length) : P4 (s.take (k + 1)) = P4 (s.take k) ++ (if O5 s[k] = true then [92, s[k]] else [s[k]]) := by rw [J0 h, c0a]
theorem a4d (s : Str) : (P4 s).length ≤ 2 * s.length := by
  induction s with
  | nil => simp [P4]
  | cons c s ih =>
    have e : P4 (c :: s) = (if O5 c = true then [92, c] else [c]) ++ P4 s := (by simp [P4]); rw [e, List.length_append, List.length_cons]; split <;> simp <;> omega
theorem a9l {l : List F6} : ∀ {k : Nat}, k ≤ l.length → (∀ p ∈ l.take k, N3 p = 0) → (Z8 l k).length ≤ 600 * k
  | 0, _, _ => by simp [a2Q]
  | k + 1, hk, h => by
    have hlt : k < l.length := (by omega); have ih := a9l (l := l) (k := k) (by omega) (fun p hp => h p (by rw [J0 hlt, List.mem_append]; exact .inl hp)); have hp := a5w.1 (h l[k] (by rw [J0 hlt, List.mem_append]; exact .inr (by simp))); have a1 := a4x hp.1; have a2 := a3A hp.2; have a3 := a4d (S3 l[k].2); have a4 := a7t l[k].2; rw [a7e hlt, List.length_append, V0, List.length_append, List.length_append, O8]; split
    · simp; omega
    · simp; omega
theorem b5p {l : List F6} {k : Nat} {n : Str} (h : (Z8 l k).length ≤ 600 * k) (hn : n.length ≤ 64) : (V0 l k n).length ≤ 600 * k + 66 := by
  rw [V0, List.length_append, List.length_append, O8]; split
  · simp; omega
  · simp; omega
theorem a5N (l : List F6) (hl : a5E l) : Ctr prog 120 [.d (G1 l)] (.tup [.d (.str (F4 l).1), .d (.int .i64 (F4 l).2)]) := by
  refine H1 (rv := .tmp 2) (rs := [.tmp 3]) (r := .d (.str (F4 l).1)) (ys := [.d (.int .i64 (F4 l).2)]) (fun i => i == 1000005 || i == 5000024 || i == 5000028 || i == 5000029 || i == 5000042 || i == 5000046 || i == 5000049) (by kernel_rfl) func120 (by kernel_rfl) rfl rfl (by simp) (nbl rfl) (by kernel_rfl) rfl rfl ?_; have c0 := c0e l hl; simp only [G1] at c0 ⊢; simp -implicitDefEqProofs; refine A1 c0 ?_; by_cases hc : V3 l = 0
  case neg =>
    simp -implicitDefEqProofs [hc, F4]
  have hF : F4 l = (D8 44 (l.map V5), 0) := by rw [F4, if_pos hc]
  rw [hF]; have hE : ∀ p ∈ l, N3 p = 0 := a2J.1 (by
    unfold V3 at hc; split at hc
    · assumption
    · rename_i h; exact absurd hc h)
  have h8 : l.length ≤ 8 := by
    unfold V3 at hc; split at hc
    · split at hc
      · omega
      · omega
    · rename_i h; exact absurd hc h
  simp -implicitDefEqProofs [hc]; refine b3m 1000000 1000001 5 (by simp) (by kernel_rfl) (by simp) (by simp) (fun b => ?_); simp -implicitDefEqProofs; refine H2 l.length (fun k τ => τ 15 = .d (.sl (l.map F9)) ∧ τ 16 = .d (.int .i64 l.length) ∧ τ 17 = .d (.int .i64 k) ∧ τ 5 = .d (.raw (va b)) ∧ a8y τ b (Z8 l k)) ?_ ?_
  · exact ⟨by simp, by simp, by simp, by simp, .nilp, .slice none 0 0, .inl rfl, by simp [b3q], by simp [a2Q, B4]⟩
  rintro k τ hk ⟨h15, h16, h17, h5, p, hd, hp, hb, hh⟩; have hbl := a9l (l := l) hk (fun p hp => hE p (List.mem_of_mem_take hp)); by_cases hlt : k < l.length
  · obtain ⟨f1, f2⟩ := hl.2 l[k] (gmm hlt); obtain ⟨g1, g2⟩ := a5w.1 (hE l[k] (gmm hlt)); have hlt' : (k : Int) < l.length := (by omega); have hs := a7e hlt; have hr : ∃ r, l[k] = r := ⟨_, rfl⟩; obtain ⟨r, hr⟩ := hr; rw [hr] at f1 f2 g1 g2 hs; obtain ⟨n, v⟩ := r; simp only at f1 f2 g1 g2 hs; have a1 := a4x g1; have a2 := a3A g2; have a4 := a7t v; have c1 := a2l n f1; have c2 := c1o v f2; have hpl := b5p (n := n) hbl a1; have hll := O8 n; have key : ∀ (τ : St) (hd : Value) (p : D), (p = .nilp ∨ p = .raw (va b)) → True := fun _ _ _ _ => trivial
    by_cases hk0 : k = 0
    · have hP : V0 l k n = D6 n ++ [61] := by rw [V0, if_pos hk0]; rfl
      have z0 : ¬ (0 : Int) < (k : Int) := (by omega); have z1 : ¬ 0 < k := (by omega); have e0 : Z8 l k = [] := by rw [hk0, a2Q]
      rw [e0] at hh; simp -implicitDefEqProofs [h15, h16, h17, h5, hlt, hlt', hr, F9, z0, z1]; refine A1 c1 ?_; simp -implicitDefEqProofs [h15, h16, h17, h5]; refine M2 [1000000, 1000001] 1000000 (a0m (s := []) (hd := hd) hp (D6 n) (by simp [O8]; omega)) (by simp [hb, hh]) rfl (by simp) ?_; rintro r hs' ⟨hd1, rfl⟩; simp -implicitDefEqProofs [h15, h16, h17, h5, C0, D1]; refine M2 [1000000, 1000001] 1000000 (J1 (b := b) (s := D6 n) (hd := hd1) (.inr rfl) 61 (by omega)) (by simp) rfl (by simp) ?_; rintro r hs' ⟨hd2, rfl⟩; simp -implicitDefEqProofs [h15, h16, h17, h5, C0, D1]; refine A1 c2 ?_; generalize S3 v = w at *; simp -implicitDefEqProofs [h15, h16, h17, h5]; refine H2 w.length (fun i τ => τ 15 = .d (.sl (l.map F9)) ∧ τ 16 = .d (.int .i64 l.length) ∧ τ 17 = .d (.int .i64 k) ∧ τ 5 = .d (.raw (va b)) ∧ τ 8 = .d (.str w) ∧ τ 34 = .d (.int .i64 w.length) ∧ τ 35 = .d (.int .i64 i) ∧ a8y τ b (V0 l k n ++ P4 (w.take i))) ?_ ?_
      · exact ⟨by simp [h15], by simp [h16], by simp [h17], by simp [h5], by simp, by simp, by simp, .raw (va b), hd2, .inr rfl, by simp, by simp [hP, P4, B4]⟩
      clear h15 h16 h17 h5 hb hh hp hd p hd1 hd2 τ; rintro i τ hi ⟨h15, h16, h17, h5, h8, h34, h35, p, hd, hp, hb, hh⟩; by_cases hil : i < List.length w
      · have hil' : (i : Int) < w.length := (by omega); have hs2 := a4G hil; have hel := a4d (w.take i); rw [List.length_take] at hel; by_cases h6 : O5 w[i] = true
        · rw [if_pos h6] at hs2; simp -implicitDefEqProofs [h15, h16, h17, h5, h8, h34, h35, hil, hil']; refine A1 (a0f w[i]) ?_; simp -implicitDefEqProofs [h15, h16, h17, h5, h8, h34, h35, hil, hil', h6]; refine M2 [1000000, 1000001] 1000000 (J1 (s := V0 l k n ++ P4 (w.take i)) (hd := hd) hp 92 (by simp; omega)) (by simp [hb, hh]) rfl (by simp) ?_; rintro r hs' ⟨hd1, rfl⟩; simp -implicitDefEqProofs [h15, h16, h17, h5, h8, h34, h35, hil, hil', C0, D1]; refine M2 [1000000, 1000001] 1000000 (J1 (b := b) (s := V0 l k n ++ P4 (w.take i) ++ [92]) (hd := hd1) (.inr rfl) w[i] (by simp; omega)) (by simp) rfl (by simp) ?_; rintro r hs' ⟨hd2, rfl⟩; simp -implicitDefEqProofs [h15, h16, h17, h5, h8, h34, h35, hil, hil', C0, D1]; (repeat refine ai (by omega) ?_); exact D7 hil ⟨by simp [h15], by simp [h16], by simp [h17], by simp [h5], by simp [h8], by simp [h34], by simp, .raw (va b), hd2, .inr rfl, by simp, by simp [hs2]⟩
        · rw [if_neg h6] at hs2; simp -implicitDefEqProofs [h15, h16, h17, h5, h8, h34, h35, hil, hil']; refine A1 (a0f w[i]) ?_; simp -implicitDefEqProofs [h15, h16, h17, h5, h8, h34, h35, hil, hil', h6]; refine M2 [1000000, 1000001] 1000000 (J1 (s := V0 l k n ++ P4 (w.take i)) (hd := hd) hp w[i] (by simp; omega)) (by simp [hb, hh]) rfl (by simp) ?_; rintro r hs' ⟨hd1, rfl⟩; simp -implicitDefEqProofs [h15, h16, h17, h5, h8, h34, h35, hil, hil', C0, D1]; (repeat refine ai (by omega) ?_); exact D7 hil ⟨by simp [h15], by simp [h16], by simp [h17], by simp [h5], by simp [h8], by simp [h34], by simp, .raw (va b), hd1, .inr rfl, by simp, by simp [hs2]⟩
      · have hil' : ¬ (i : Int) < w.length := (by omega); rw [ttl (by omega)] at hh; simp -implicitDefEqProofs [h15, h16, h17, h5, h8, h34, h35, hil, hil']; (repeat refine ai (by omega) ?_); exact D7 hlt ⟨by simp [h15], by simp [h16], by simp, by simp [h5], p, hd, hp, by simp [hb], by simp [hs, hh]⟩
    · have hP : V0 l k n = Z8 l k ++ [44] ++ (D6 n ++ [61]) := by rw [V0, if_neg hk0]
      have z0 : (0 : Int) < (k : Int) := (by omega); have z1 : 0 < k := (by omega); have z2 : ¬ k = 0 := hk0; simp -implicitDefEqProofs [h15, h16, h17, h5, hlt, hlt', hr, F9, z0, z1]; refine M2 [1000000, 1000001] 1000000 (J1 (s := Z8 l k) (hd := hd) hp 44 (by omega)) (by simp [hb, hh]) rfl (by simp) ?_; rintro r hs' ⟨hd0, rfl⟩; simp -implicitDefEqProofs [h15, h16, h17, h5, C0, D1]; refine A1 c1 ?_; simp -implicitDefEqProofs [h15, h16, h17, h5]; refine M2 [1000000, 1000001] 1000000 (a0m (b := b) (s := Z8 l k ++ [44]) (hd := hd0) (.inr rfl) (D6 n) (by simp [O8]; omega)) (by simp) rfl (by simp) ?_; rintro r hs' ⟨hd1, rfl⟩; simp -implicitDefEqProofs [h15, h16, h17, h5, C0, D1]; refine M2 [1000000, 1000001] 1000000 (J1 (b := b) (s := Z8 l k ++ [44] ++ D6 n) (hd := hd1) (.inr rfl) 61 (by simp [O8]; omega)) (by simp) rfl (by simp) ?_; rintro r hs' ⟨hd2, rfl⟩; simp -implicitDefEqProofs [h15, h16, h17, h5, C0, D1]; refine A1 c2 ?_; generalize S3 v = w at *; simp -implicitDefEqProofs [h15, h16, h17, h5]; refine H2 w.length (fun i τ => τ 15 = .d (.sl (l.map F9)) ∧ τ 16 = .d (.int .i64 l.length) ∧ τ 17 = .d (.int .i64 k) ∧ τ 5 = .d (.raw (va b)) ∧ τ 8 = .d (.str w) ∧ τ 34 = .d (.int .i64 w.length) ∧ τ 35 = .d (.int .i64 i) ∧ a8y τ b (V0 l k n ++ P4 (w.take i))) ?_ ?_
      · exact ⟨by simp [h15], by simp [h16], by simp [h17], by simp [h5], by simp, by simp, by simp, .raw (va b), hd2, .inr rfl, by simp, by simp [hP, P4, B4]⟩
      clear h15 h16 h17 h5 hb hh hp hd p hd0 hd1 hd2 τ; rintro i τ hi ⟨h15, h16, h17, h5, h8, h34, h35, p, hd, hp, hb, hh⟩; by_cases hil : i < List.length w
      · have hil' : (i : Int) < w.length := (by omega); have hs2 := a4G hil; have hel := a4d (w.take i); rw [List.length_take] at hel; by_cases h6 : O5 w[i] = true
        · rw [if_pos h6] at hs2; simp -implicitDefEqProofs [h15, h16, h17, h5, h8, h34, h35, hil, hil']; refine A1 (a0f w[i]) ?_; simp -implicitDefEqProofs [h15, h16, h17, h5, h8, h34, h35, hil, hil', h6]; refine M2 [1000000, 1000001] 1000000 (J1 (s := V0 l k n ++ P4 (w.take i)) (hd := hd) hp 92 (by simp; omega)) (by simp [hb, hh]) rfl (by simp) ?_; rintro r hs' ⟨hd1, rfl⟩; simp -implicitDefEqProofs [h15, h16, h17, h5, h8, h34, h35, hil, hil', C0, D1]; refine M2 [1000000, 1000001] 1000000 (J1 (b := b) (s := V0 l k n ++ P4 (w.take i) ++ [92]) (hd := hd1) (.inr rfl) w[i] (by simp; omega)) (by simp) rfl (by simp) ?_; rintro r hs' ⟨hd2, rfl⟩; simp -implicitDefEqProofs [h15, h16, h17, h5, h8, h34, h35, hil, hil', C0, D1]; (repeat refine ai (by omega) ?_); exact D7 hil ⟨by simp [h15], by simp [h16], by simp [h17], by simp [h5], by simp [h8], by simp [h34], by simp, .raw (va b), hd2, .inr rfl, by simp, by simp [hs2]⟩
        · rw [if_neg h6] at hs2; simp -implicitDefEqProofs [h15, h16, h17, h5, h8, h34, h35, hil, hil']; refine A1 (a0f w[i]) ?_; simp -implicitDefEqProofs [h15, h16, h17, h5, h8, h34, h35, hil, hil', h6]; refine M2 [1000000, 1000001] 1000000 (J1 (s := V0 l k n ++ P4 (w.take i)) (hd := hd) hp w[i] (by simp; omega)) (by simp [hb, hh]) rfl (by simp) ?_; rintro r hs' ⟨hd1, rfl⟩; simp -implicitDefEqProofs [h15, h16, h17, h5, h8, h34, h35, hil, hil', C0, D1]; (repeat refine ai (by omega) ?_); exact D7 hil ⟨by simp [h15], by simp [h16], by simp [h17], by simp [h5], by simp [h8], by simp [h34], by simp, .raw (va b), hd1, .inr rfl, by simp, by simp [hs2]⟩
      · have hil' : ¬ (i : Int) < w.length := (by omega); rw [ttl (by omega)] at hh; simp -implicitDefEqProofs [h15, h16, h17, h5, h8, h34, h35, hil, hil']; (repeat refine ai (by omega) ?_); exact D7 hlt ⟨by simp [h15], by simp [h16], by simp, by simp [h5], p, hd, hp, by simp [hb], by simp [hs, hh]⟩
  · have hlt' : ¬ (k : Int) < l.length := (by omega); rw [b4U l hlt] at hh; simp -implicitDefEqProofs [h15, h16, h17, h5, hlt, hlt']; refine M2 [1000000, 1000001] 1000000 (a4v (s := D8 44 (l.map V5)) (hd := hd) hp) (by simp [hb, hh]) rfl (by simp) ?_; rintro r hs' ⟨rfl, rfl⟩; simp -implicitDefEqProofs [h15, h16, h17, h5, C0, D1]
theorem b6M (a b : Str) : B4 a ++ B4 b = B4 (a ++ b) := by simp [B4]
theorem a3x (a : Str) : (B4 a).length = a.length := by simp [B4]
theorem a8P (l : List F6) (hl : a5E l) : Ctr prog 96 [.d (G1 l)] (.tup [.d (.str (F4 l).1), .d (.int .i64 (F4 l).2)]) := by
  refine H1 (rv := .tmp 2) (rs := [.tmp 3]) (r := .d (.str (F4 l).1)) (ys := [.d (.int .i64 (F4 l).2)]) (fun i => false) (by kernel_rfl) func96 (by kernel_rfl) rfl rfl (by simp) (nbl rfl) (by kernel_rfl) rfl rfl ?_; obtain ⟨R, hR⟩ : ∃ R, F4 l = R := ⟨_, rfl⟩; rw [hR]; have hl1 := hl.1; simp -implicitDefEqProofs [G1]; refine H2 l.length (fun k τ => τ 0 = .d (.sl (l.map F9)) ∧ τ 5 = .d (.int .i64 k) ∧ τ 4 = .own false 5 (B4 (Z8 l k)) ∧ W3 l = W3 (l.drop k) ∧ ∀ p ∈ l.take k, N3 p = 0) ⟨by simp, by simp, by simp [a2Q, B4], by simp, by simp⟩ ?_; rintro k τ hk ⟨h0, h5, h4, hI, hA⟩; have hbl := a9l (l := l) hk hA; have hbb := a3x (Z8 l k); by_cases hlt : k < l.length
  · have hlt' : (k : Int) < l.length := (by omega); obtain ⟨f1, f2⟩ := hl.2 l[k] (gmm hlt); have hs := a7e hlt; have hA2 : N3 l[k] = 0 → ∀ p ∈ l.take (k + 1), N3 p = 0 := fun h p hp => by
      rw [J0 hlt, List.mem_append, List.mem_singleton] at hp; rcases hp with hp | rfl
      · exact hA p hp
      · exact h
    rw [a9a hlt] at hI; have hr : ∃ r, l[k] = r := ⟨_, rfl⟩; obtain ⟨r, hr⟩ := hr; rw [hr] at f1 f2 hs hA2 hI; obtain ⟨n, v⟩ := r; simp only at f1 f2 hs; have c1 := b6a n; have c2 := b4x v; have c3 := b4Q n f1; have c4 := b9S v f2; simp -implicitDefEqProofs [h0, h5, h4, hlt, hlt', hr, F9]; refine A1 c1 ?_; by_cases hn : M0 n = true
    case neg =>
      have e : N3 (n, v) = 5 := (by simp [N3, hn]); rw [e, if_neg (by omega)] at hI; have hq : R = ([], 5) := by rw [← hR, F4, V3, hI, if_neg (by omega), if_neg (by omega)]
      simp -implicitDefEqProofs [h0, h5, h4, hn, hq]
    simp -implicitDefEqProofs [h0, h5, h4, hlt, hlt', hr, F9, hn]; refine A1 c2 ?_; by_cases hc : J7 v = true
    case neg =>
      have e : N3 (n, v) = 8 := (by simp [N3, hn, hc]); rw [e, if_neg (by omega)] at hI; have hq : R = ([], 8) := by rw [← hR, F4, V3, hI, if_neg (by omega), if_neg (by omega)]
      simp -implicitDefEqProofs [h0, h5, h4, hc, hq]
    have e : N3 (n, v) = 0 := a5w.2 ⟨hn, hc⟩; rw [if_pos e] at hI; have hA3 := hA2 e; have a1 := a4x hn; have a2 := a3A hc; have a4 := a7t v; have hpl := b5p (n := n) hbl a1; have hll := O8 n; have hpb := a3x (V0 l k n); by_cases hk0 : k = 0
    · have hP : V0 l k n = D6 n ++ [61] := by rw [V0, if_pos hk0]; rfl
      have z0 : ¬ (0 : Int) < (k : Int) := (by omega); have z1 : ¬ 0 < k := (by omega); have e0 : Z8 l k = [] := by rw [hk0, a2Q]
      have hPb : B4 (D6 n) ++ [D.int .u8 61] = B4 (V0 l k n) := by rw [hP, ← b6M]; rfl
      rw [e0] at h4; simp only [B4, List.map_nil] at h4; simp -implicitDefEqProofs [h0, h5, h4, hlt, hlt', hr, F9, hc, z0, z1]; refine A1 c3 ?_; simp -implicitDefEqProofs [h0, h5, h4, hlt, hlt', hr, F9]; (repeat refine And.intro (by first | omega | (simp [B4, O8]; omega)) ?_); refine A1 c4 ?_; generalize S3 v = w at *; rw [hPb]; generalize V0 l k n = P at *; simp -implicitDefEqProofs [h0, h5]; refine H2 w.length (fun i τ => τ 0 = .d (.sl (l.map F9)) ∧ τ 5 = .d (.int .i64 k) ∧ τ 6 = .d (.str w) ∧ τ 7 = .d (.int .i64 i) ∧ τ 4 = .own false 5 (B4 (P ++ P4 (w.take i)))) ?_ ?_
      · exact ⟨by simp [h0], by simp [h5], by simp, by simp, by simp [P4]⟩
      clear h0 h5 h4 τ; rintro i τ hi ⟨h0, h5, h6, h7, h4⟩; have hel := a4d (w.take i); rw [List.length_take] at hel; by_cases hil : i < List.length w
      · have hil' : (i : Int) < w.length := (by omega); have hs2 := a4G hil; by_cases hsp : O5 w[i] = true
        · rw [if_pos hsp] at hs2; simp -implicitDefEqProofs [h0, h5, h6, h7, h4, hil, hil']; refine A1 (a0n w[i]) ?_; simp -implicitDefEqProofs [h0, h5, h6, h7, h4, hil, hil', hsp]; (repeat refine And.intro (by first | omega | (simp [B4]; omega)) ?_); exact D7 hil ⟨by simp [h0], by simp [h5], by simp [h6], by simp, by simp [hs2, B4]⟩
        · rw [if_neg hsp] at hs2; simp -implicitDefEqProofs [h0, h5, h6, h7, h4, hil, hil']; refine A1 (a0n w[i]) ?_; simp -implicitDefEqProofs [h0, h5, h6, h7, h4, hil, hil', hsp]; (repeat refine And.intro (by first | omega | (simp [B4]; omega)) ?_); exact D7 hil ⟨by simp [h0], by simp [h5], by simp [h6], by simp, by simp [hs2, B4]⟩
      · have hil' : ¬ (i : Int) < w.length := (by omega); rw [ttl (by omega)] at h4; simp -implicitDefEqProofs [h0, h5, h6, h7, h4, hil, hil']; (repeat refine ai (by omega) ?_); exact D7 hlt ⟨by simp [h0], by simp, by simp [hs, h4], hI, fun a b h => hA3 _ h⟩
    · have hP : V0 l k n = Z8 l k ++ [44] ++ (D6 n ++ [61]) := by rw [V0, if_neg hk0]
      have z0 : (0 : Int) < (k : Int) := (by omega); have z1 : 0 < k := (by omega); have hPb : B4 (Z8 l k) ++ D.int .u8 44 :: (B4 (D6 n) ++ [D.int .u8 61]) = B4 (V0 l k n) := by rw [hP]; simp [B4]
      simp -implicitDefEqProofs [h0, h5, h4, hlt, hlt', hr, F9, hc, z0, z1]; (repeat refine And.intro (by first | omega | (simp [B4]; omega)) ?_); refine A1 c3 ?_; simp -implicitDefEqProofs [h0, h5, h4, hlt, hlt', hr, F9]; (repeat refine And.intro (by first | omega | (simp [B4, O8]; omega)) ?_); refine A1 c4 ?_; generalize S3 v = w at *; rw [hPb]; generalize V0 l k n = P at *; simp -implicitDefEqProofs [h0, h5]; refine H2 w.length (fun i τ => τ 0 = .d (.sl (l.map F9)) ∧ τ 5 = .d (.int .i64 k) ∧ τ 6 = .d (.str w) ∧ τ 7 = .d (.int .i64 i) ∧ τ 4 = .own false 5 (B4 (P ++ P4 (w.take i)))) ?_ ?_
      · exact ⟨by simp [h0], by simp [h5], by simp, by simp, by simp [P4]⟩
      clear h0 h5 h4 τ; rintro i τ hi ⟨h0, h5, h6, h7, h4⟩; have hel := a4d (w.take i); rw [List.length_take] at hel; by_cases hil : i < List.length w
      · have hil' : (i : Int) < w.length := (by omega); have hs2 := a4G hil; by_cases hsp : O5 w[i] = true
        · rw [if_pos hsp] at hs2; simp -implicitDefEqProofs [h0, h5, h6, h7, h4, hil, hil']; refine A1 (a0n w[i]) ?_; simp -implicitDefEqProofs [h0, h5, h6, h7, h4, hil, hil', hsp]; (repeat refine And.intro (by first | omega | (simp [B4]; omega)) ?_); exact D7 hil ⟨by simp [h0], by simp [h5], by simp [h6], by simp, by simp [hs2, B4]⟩
        · rw [if_neg hsp] at hs2; simp -implicitDefEqProofs [h0, h5, h6, h7, h4, hil, hil']; refine A1 (a0n w[i]) ?_; simp -implicitDefEqProofs [h0, h5, h6, h7, h4, hil, hil', hsp]; (repeat refine And.intro (by first | omega | (simp [B4]; omega)) ?_); exact D7 hil ⟨by simp [h0], by simp [h5], by simp [h6], by simp, by simp [hs2, B4]⟩
      · have hil' : ¬ (i : Int) < w.length := (by omega); rw [ttl (by omega)] at h4; simp -implicitDefEqProofs [h0, h5, h6, h7, h4, hil, hil']; (repeat refine ai (by omega) ?_); exact D7 hlt ⟨by simp [h0], by simp, by simp [hs, h4], hI, fun a b h => hA3 _ h⟩
  · have hlt' : ¬ (k : Int) < l.length := (by omega); rw [b4U l hlt] at h4; rw [List.drop_eq_nil_of_le (by omega), W3] at hI; rw [F4, V3, if_pos hI] at hR; by_cases h8 : 8 < l.length
    · have h8' : (8 : Int) < l.length := (by omega); rw [if_pos h8, if_neg (by omega)] at hR; simp -implicitDefEqProofs [h0, h5, h4, hlt', h8', ← hR]
    · have h8' : ¬ (8 : Int) < l.length := (by omega); rw [if_neg h8, if_pos rfl] at hR; simp -implicitDefEqProofs [h0, h5, h4, hlt', h8', ← hR]
theorem c0s {s : Str} {p : F6} (h : Q6 s = (p, 0)) : List.length p.1 ≤ 64 ∧ List.length p.2 ≤ 256 := by
  have := a5R h; exact ⟨a4x this.1, a3A this.2⟩
theorem b0E : ∀ {ps : List Str} {out : List F6}, (K9 out ps).2 ≠ 0 → (K9 out ps).1 = []
  | [], out, h => by
    simp only [K9] at h ⊢; split
    · rfl
    · rename_i h8; rw [if_neg h8] at h; exact absurd rfl h
  | p :: ps, out, h => by
    simp only [K9] at h ⊢; by_cases h0 : (Q6 p).2 = 0
    · rw [if_pos h0] at h ⊢; exact b0E h
    · rw [if_neg h0]
theorem b0m {s : Str} (h : (C8 s).2 ≠ 0) : (C8 s).1 = [] := by
  unfold C8 at h ⊢; split
  · rfl
  · rename_i hs; rw [if_neg hs] at h; exact b0E h
theorem b7J (s : Str) : (C8 s).1.length ≤ 8 ∧ ∀ p ∈ (C8 s).1, List.length p.1 ≤ 64 ∧ List.length p.2 ≤ 256 := by
  by_cases h : (C8 s).2 = 0
  · unfold C8 at h ⊢; split
    · simp
    · rename_i hs
      rw [if_neg hs] at h; have hc : K9 [] (N0 s) = ((K9 [] (N0 s)).1, 0) := by rw [← h]
      obtain ⟨qs, hr, hl, h8, hq⟩ := a5L hc; refine ⟨h8, fun p hp => ?_⟩; rw [hr, List.nil_append] at hp; obtain ⟨i, hi, rfl⟩ := List.getElem_of_mem hp; exact c0s (hq i (by omega) hi)
  · rw [b0m h]; simp
theorem X4 (s : Str) : a5E (C8 s).1 := by
  obtain ⟨h1, h2⟩ := b7J s; exact ⟨by omega, fun p hp => by have := h2 p hp; omega⟩
theorem a3W (s : Str) : K1 s = if H5 s = true then some (C8 s).1 else none := by
  unfold H5; by_cases h : (C8 s).2 = 0 ∧ F4 (C8 s).1 = (s, 0)
  · have e : K1 s = some (C8 s).1 := by rw [K1, if_pos h]
    rw [e]; rfl
  · have e : K1 s = none := by rw [K1, if_neg h]
    rw [e]; rfl
theorem b2k (s : Str) : H5 s = (decide ((C8 s).2 = 0) && (decide ((F4 (C8 s).1).2 = 0) && decide ((F4 (C8 s).1).1 = s))) := by
  unfold H5 K1; by_cases h1 : (C8 s).2 = 0
  · by_cases h2 : (F4 (C8 s).1).2 = 0
    · by_cases h3 : (F4 (C8 s).1).1 = s
      · have e : F4 (C8 s).1 = (s, 0) := by rw [← h2]; exact Prod.ext h3 rfl
        rw [if_pos ⟨h1, e⟩, decide_eq_true h1, decide_eq_true h2, decide_eq_true h3]; rfl
      · have e : ¬ F4 (C8 s).1 = (s, 0) := fun q => h3 (by rw [q])
        rw [if_neg fun q => e q.2, decide_eq_true h1, decide_eq_true h2, decide_eq_false h3]; rfl
    · have e : ¬ F4 (C8 s).1 = (s, 0) := fun q => h2 (by rw [q])
      rw [if_neg fun q => e q.2, decide_eq_true h1, decide_eq_false h2]; rfl
  · rw [if_neg fun q => h1 q.1, decide_eq_false h1]; rfl
theorem a2d (s : Str) (hs : List.length s < 900000) : Ctr prog 104 [.d (.str s)] (.tup [.d (G1 (C8 s).1), .d (.bool (H5 s))]) := by
  refine H1 (rv := .tmp 2) (rs := [.tmp 3]) (r := .d (G1 (C8 s).1)) (ys := [.d (.bool (H5 s))]) (fun i => false) (by kernel_rfl) func104 (by kernel_rfl) rfl rfl (by simp) (nbl rfl) (by kernel_rfl) rfl rfl ?_; have c1 := b2R s hs; have c2 := a5N (C8 s).1 (X4 s); have he := b0m (s := s); rw [b2k]; obtain ⟨⟨l, e⟩, hP⟩ : ∃ r, C8 s = r := ⟨_, rfl⟩; rw [hP] at c1 c2 he ⊢; simp only [G1] at *; generalize F4 l = G at *; obtain ⟨t, g⟩ := G; simp -implicitDefEqProofs; refine A1 c1 ?_; by_cases h0 : e = 0
  · simp -implicitDefEqProofs [h0]; refine A1 c2 ?_; by_cases h1 : g = 0
    · simp -implicitDefEqProofs [h1]
    · simp -implicitDefEqProofs [h1]
  · have := he h0; subst this; simp -implicitDefEqProofs [h0]
theorem c0b (s : Str) (hs : List.length s < 900000) : Ctr prog 54 [.d (.str s)] (.d (.bool (H5 s))) := by
  refine fv (fun _ => false) func54 (by kernel_rfl) rfl rfl rfl rfl rfl ?_; have c1 := a2d s hs; simp only [G1] at c1; simp -implicitDefEqProofs; refine A1 c1 ?_; simp -implicitDefEqProofs
theorem c0j (s : Str) : T7 s = if H5 s = true then (C8 s).1.length else 0 := by
  rw [T7, a3W]; split <;> rfl
theorem b8E (s : Str) (hs : List.length s < 900000) : Ctr prog 68 [.d (.str s)] (.d (.int .i64 (T7 s))) := by
  refine fv (fun _ => false) func68 (by kernel_rfl) rfl rfl rfl rfl rfl ?_; have c1 := a2d s hs; rw [c0j]; simp only [G1] at c1; by_cases hv : H5 s = true
  · simp -implicitDefEqProofs; refine A1 c1 ?_; simp -implicitDefEqProofs [hv]
  · simp -implicitDefEqProofs; refine A1 c1 ?_; simp -implicitDefEqProofs [hv]
def a1V (s : Str) : Str × Int := if (C8 s).2 = 0 then F4 (C8 s).1 else ([], (C8 s).2)
theorem b8y (s : Str) (hs : List.length s < 900000) : Ctr prog 129 [.d (.str s)] (.tup [.d (.str (a1V s).1), .d (.int .i64 (a1V s).2)]) := by
  refine H1 (rv := .tmp 2) (rs := [.tmp 3]) (r := .d (.str (a1V s).1)) (ys := [.d (.int .i64 (a1V s).2)]) (fun i => false) (by kernel_rfl) func129 (by kernel_rfl) rfl rfl (by simp) (nbl rfl) (by kernel_rfl) rfl rfl ?_; have c1 := b0w s hs; have c2 := a8P (C8 s).1 (X4 s); unfold a1V; obtain ⟨⟨l, e⟩, hP⟩ : ∃ r, C8 s = r := ⟨_, rfl⟩; rw [hP] at c1 c2 ⊢; simp only [G1] at *; generalize F4 l = G at *; obtain ⟨t, g⟩ := G; simp -implicitDefEqProofs; refine A1 c1 ?_; by_cases h0 : e = 0
  · simp -implicitDefEqProofs [h0]; refine A1 c2 ?_; simp -implicitDefEqProofs
  · simp -implicitDefEqProofs [h0]
theorem b4O (s : Str) : H5 s = (decide ((a1V s).2 = 0) && decide ((a1V s).1 = s)) := by
  rw [b2k, a1V]; by_cases h : (C8 s).2 = 0
  · rw [if_pos h]; simp [h]
  · rw [if_neg h]; simp [h]
theorem b7e (s : Str) (hs : List.length s < 900000) : Ctr prog 85 [.d (.str s)] (.d (.bool (H5 s))) := by
  refine fv (fun _ => false) func85 (by kernel_rfl) rfl rfl rfl rfl rfl ?_; have c1 := b8y s hs; rw [b4O]; generalize a1V s = G at *; obtain ⟨t, g⟩ := G; simp -implicitDefEqProofs; refine A1 c1 ?_; by_cases h0 : g = 0
  · simp -implicitDefEqProofs [h0]
  · simp -implicitDefEqProofs [h0]
def a5q (s : Str) : List F6 := (K1 s).getD []
theorem b2x (s : Str) : a5q s = if H5 s = true then (C8 s).1 else [] := by
  rw [a5q, a3W]; split <;> rfl
theorem b2r (s : Str) (hs : List.length s < 900000) : Ctr prog 121 [.d (.str s)] (.tup [.d (G1 (a5q s)), .d (.bool (H5 s))]) := by
  refine H1 (rv := .tmp 2) (rs := [.tmp 3]) (r := .d (G1 (a5q s))) (ys := [.d (.bool (H5 s))]) (fun i => false) (by kernel_rfl) func121 (by kernel_rfl) rfl rfl (by simp) (nbl rfl) (by kernel_rfl) rfl rfl ?_; have c1 := b7e s hs; have c2 := b0w s hs; rw [b2x]; simp only [G1] at *; simp -implicitDefEqProofs; refine A1 c1 ?_; by_cases hv : H5 s = true
  · simp -implicitDefEqProofs [hv]; refine A1 c2 ?_; simp -implicitDefEqProofs [hv]
  · simp -implicitDefEqProofs [hv]
theorem b7r (s : Str) : (a5q s).length = T7 s := rfl
theorem b8n (s : Str) (hs : List.length s < 900000) : Ctr prog 70 [.d (.str s)] (.d (.int .i64 (T7 s))) := by
  refine fv (fun _ => false) func70 (by kernel_rfl) rfl rfl rfl rfl rfl ?_; have c1 := b2r s hs; rw [← b7r]; simp only [G1] at c1; simp -implicitDefEqProofs; refine A1 c1 ?_; simp -implicitDefEqProofs
theorem a8p (c : Chg) (hc : S4 c) : Ctr prog 24 [.d (B0 c)] (.d (.int .i64 (Q4 c))) := by
  refine fv (fun _ => false) func24 (by kernel_rfl) rfl rfl rfl rfl rfl ?_; obtain ⟨f1, f2, f3, f4⟩ := hc; obtain ⟨n, op, id, nm, at_, va⟩ := c; simp only at f1 f2 f3 f4; have c1 := a7F n; have c2 := b5x id (by omega); have c3 := c0b nm (by omega); have c4 := a9j at_ (by omega); have c5 := a2l at_ (by omega); have c6 := a7G va (by omega); rw [a7J] at c6
  
  obtain ⟨R, hR⟩ : ∃ R, Q4 (n, op, id, nm, at_, va) = R := ⟨_, rfl⟩; rw [hR]; unfold Q4 at hR; simp only at hR; simp only [B8, B0] at c1 c2; generalize a0J id = P at *; obtain ⟨⟨p1, p2, p3⟩, pe⟩ := P; simp only at c2 hR; by_cases hv : U7 n = true
  case neg =>
    have hv' : U7 n = false := (by simpa using hv); rw [hv'] at c1; have hR2 : 2 = R := by rw [← hR]; simp [hv']
    rw [← hR2]; simp -implicitDefEqProofs [B0, B8]; refine A1 c1 ?_; simp -implicitDefEqProofs [B0, B8]
  rw [hv] at c1; by_cases hlo : op < 1
  case pos =>
    have hR2 : 2 = R := by rw [← hR]; simp [hlo]
    rw [← hR2]; simp -implicitDefEqProofs [B0, B8, hlo]; refine A1 c1 ?_; simp -implicitDefEqProofs [B0, B8, hlo]
  by_cases hhi : 5 < op
  case pos =>
    have hR2 : 2 = R := by rw [← hR]; simp [hhi]
    rw [← hR2]; simp -implicitDefEqProofs [B0, B8, hlo, hhi]; refine A1 c1 ?_; simp -implicitDefEqProofs [B0, B8, hlo, hhi]
  by_cases hpe : pe = 0
  case neg =>
    have hR2 : 4 = R := by rw [← hR]; simp [hv, hlo, hhi, hpe]
    rw [← hR2]; simp -implicitDefEqProofs [B0, B8, hlo, hhi, hpe]; refine A1 c1 ?_; simp -implicitDefEqProofs [B0, B8, hlo, hhi, hpe]; refine A1 c2 ?_; simp -implicitDefEqProofs [B0, B8, hlo, hhi, hpe]
  subst hpe; have : op = 1 ∨ op = 2 ∨ op = 3 ∨ op = 4 ∨ op = 5 := (by omega); clear hlo hhi; rcases this with rfl | rfl | rfl | rfl | rfl
  case inl =>
    by_cases e2 : at_ = []
    case neg =>
      have hR2 : 4 = R := by rw [← hR]; simp [hv, G3, G7, J3, I9, e2]
      rw [← hR2]; simp -implicitDefEqProofs [B0, B8, e2]; refine A1 c1 ?_; simp -implicitDefEqProofs [B0, B8, e2]; refine A1 c2 ?_; simp -implicitDefEqProofs [B0, B8, e2]
    by_cases e3 : va = []
    case neg =>
      have hR2 : 4 = R := by rw [← hR]; simp [hv, G3, G7, J3, I9, e2, e3]
      rw [← hR2]; simp -implicitDefEqProofs [B0, B8, e2, e3]; refine A1 c1 ?_; simp -implicitDefEqProofs [B0, B8, e2, e3]; refine A1 c2 ?_; simp -implicitDefEqProofs [B0, B8, e2, e3]
    by_cases e1 : nm = []
    case pos =>
      have hR2 : 5 = R := by rw [← hR]; simp [hv, G3, G7, J3, I9, e1, e2, e3]
      rw [← hR2]; simp -implicitDefEqProofs [B0, B8, e1, e2, e3]; refine A1 c1 ?_; simp -implicitDefEqProofs [B0, B8, e1, e2, e3]; refine A1 c2 ?_; simp -implicitDefEqProofs [B0, B8, e1, e2, e3]
    by_cases e4 : H5 nm = true
    case neg =>
      have e4' : H5 nm = false := (by simpa using e4); rw [e4'] at c3; have hR2 : 5 = R := by rw [← hR]; simp [hv, G3, G7, J3, I9, e1, e2, e3, e4']
      rw [← hR2]; simp -implicitDefEqProofs [B0, B8, e1, e2, e3]; refine A1 c1 ?_; simp -implicitDefEqProofs [B0, B8, e1, e2, e3]; refine A1 c2 ?_; simp -implicitDefEqProofs [B0, B8, e1, e2, e3]; refine F0 c3 ?_; simp -implicitDefEqProofs [B0, B8, e1, e2, e3]
    rw [e4] at c3; have hR2 : 0 = R := by rw [← hR]; simp [hv, G3, G7, J3, I9, e1, e2, e3, e4]
    rw [← hR2]; simp -implicitDefEqProofs [B0, B8, e1, e2, e3]; refine A1 c1 ?_; simp -implicitDefEqProofs [B0, B8, e1, e2, e3]; refine A1 c2 ?_; simp -implicitDefEqProofs [B0, B8, e1, e2, e3]; refine F0 c3 ?_; simp -implicitDefEqProofs [B0, B8, e1, e2, e3]
  case inr.inl =>
    by_cases e1 : nm = []
    case neg =>
      have hR2 : 4 = R := by rw [← hR]; simp [hv, G3, G7, J3, I9, e1]
      rw [← hR2]; simp -implicitDefEqProofs [B0, B8, e1]; refine A1 c1 ?_; simp -implicitDefEqProofs [B0, B8, e1]; refine A1 c2 ?_; simp -implicitDefEqProofs [B0, B8, e1]
    by_cases e2 : at_ = []
    case neg =>
      have hR2 : 4 = R := by rw [← hR]; simp [hv, G3, G7, J3, I9, e1, e2]
      rw [← hR2]; simp -implicitDefEqProofs [B0, B8, e1, e2]; refine A1 c1 ?_; simp -implicitDefEqProofs [B0, B8, e1, e2]; refine A1 c2 ?_; simp -implicitDefEqProofs [B0, B8, e1, e2]
    by_cases e3 : va = []
    case neg =>
      have hR2 : 4 = R := by rw [← hR]; simp [hv, G3, G7, J3, I9, e1, e2, e3]
      rw [← hR2]; simp -implicitDefEqProofs [B0, B8, e1, e2, e3]; refine A1 c1 ?_; simp -implicitDefEqProofs [B0, B8, e1, e2, e3]; refine A1 c2 ?_; simp -implicitDefEqProofs [B0, B8, e1, e2, e3]
    have hR2 : 0 = R := by rw [← hR]; simp [hv, G3, G7, J3, I9, e1, e2, e3]
    rw [← hR2]; simp -implicitDefEqProofs [B0, B8, e1, e2, e3]; refine A1 c1 ?_; simp -implicitDefEqProofs [B0, B8, e1, e2, e3]; refine A1 c2 ?_; simp -implicitDefEqProofs [B0, B8, e1, e2, e3]
  case inr.inr.inl =>
    by_cases e2 : at_ = []
    case neg =>
      have hR2 : 4 = R := by rw [← hR]; simp [hv, G3, G7, J3, I9, e2]
      rw [← hR2]; simp -implicitDefEqProofs [B0, B8, e2]; refine A1 c1 ?_; simp -implicitDefEqProofs [B0, B8, e2]; refine A1 c2 ?_; simp -implicitDefEqProofs [B0, B8, e2]
    by_cases e3 : va = []
    case neg =>
      have hR2 : 4 = R := by rw [← hR]; simp [hv, G3, G7, J3, I9, e2, e3]
      rw [← hR2]; simp -implicitDefEqProofs [B0, B8, e2, e3]; refine A1 c1 ?_; simp -implicitDefEqProofs [B0, B8, e2, e3]; refine A1 c2 ?_; simp -implicitDefEqProofs [B0, B8, e2, e3]
    by_cases e1 : nm = []
    case pos =>
      have hR2 : 5 = R := by rw [← hR]; simp [hv, G3, G7, J3, I9, e1, e2, e3]
      rw [← hR2]; simp -implicitDefEqProofs [B0, B8, e1, e2, e3]; refine A1 c1 ?_; simp -implicitDefEqProofs [B0, B8, e1, e2, e3]; refine A1 c2 ?_; simp -implicitDefEqProofs [B0, B8, e1, e2, e3]
    by_cases e4 : H5 nm = true
    case neg =>
      have e4' : H5 nm = false := (by simpa using e4); rw [e4'] at c3; have hR2 : 5 = R := by rw [← hR]; simp [hv, G3, G7, J3, I9, e1, e2, e3, e4']
      rw [← hR2]; simp -implicitDefEqProofs [B0, B8, e1, e2, e3]; refine A1 c1 ?_; simp -implicitDefEqProofs [B0, B8, e1, e2, e3]; refine A1 c2 ?_; simp -implicitDefEqProofs [B0, B8, e1, e2, e3]; refine F0 c3 ?_; simp -implicitDefEqProofs [B0, B8, e1, e2, e3]
    rw [e4] at c3; have hR2 : 0 = R := by rw [← hR]; simp [hv, G3, G7, J3, I9, e1, e2, e3, e4]
    rw [← hR2]; simp -implicitDefEqProofs [B0, B8, e1, e2, e3]; refine A1 c1 ?_; simp -implicitDefEqProofs [B0, B8, e1, e2, e3]; refine A1 c2 ?_; simp -implicitDefEqProofs [B0, B8, e1, e2, e3]; refine F0 c3 ?_; simp -implicitDefEqProofs [B0, B8, e1, e2, e3]
  case inr.inr.inr.inl =>
    by_cases e1 : nm = []
    case neg =>
      have hR2 : 4 = R := by rw [← hR]; simp [hv, G3, G7, J3, I9, e1]
      rw [← hR2]; simp -implicitDefEqProofs [B0, B8, e1]; refine A1 c1 ?_; simp -implicitDefEqProofs [B0, B8, e1]; refine A1 c2 ?_; simp -implicitDefEqProofs [B0, B8, e1]
    by_cases e4 : M0 at_ = true
    case neg =>
      have e4' : M0 at_ = false := (by simpa using e4); rw [e4'] at c4; have hR2 : 5 = R := by rw [← hR]; simp [hv, G3, G7, J3, I9, e1, e4']
      rw [← hR2]; simp -implicitDefEqProofs [B0, B8, e1]; refine A1 c1 ?_; simp -implicitDefEqProofs [B0, B8, e1]; refine A1 c2 ?_; simp -implicitDefEqProofs [B0, B8, e1]; refine F0 c4 ?_; simp -implicitDefEqProofs [B0, B8, e1]
    rw [e4] at c4; generalize hla : D6 at_ = la at *; by_cases e5 : la = at_
    case neg =>
      have hR2 : 5 = R := by rw [← hR]; simp [hv, G3, G7, J3, I9, e1, e4, hla, e5]
      rw [← hR2]; simp -implicitDefEqProofs [B0, B8, e1, e5]; refine A1 c1 ?_; simp -implicitDefEqProofs [B0, B8, e1, e5]; refine A1 c2 ?_; simp -implicitDefEqProofs [B0, B8, e1, e5]; refine F0 c4 ?_; simp -implicitDefEqProofs [B0, B8, e1, e5]; refine F0 c5 ?_; simp -implicitDefEqProofs [B0, B8, e1, e5]
    by_cases e6 : J7 va = true
    case neg =>
      have e6' : J7 va = false := (by simpa using e6); rw [e6'] at c6; have hR2 : 8 = R := by rw [← hR]; simp [hv, G3, G7, J3, I9, e1, e4, hla, e5, e6']
      rw [← hR2]; simp -implicitDefEqProofs [B0, B8, e1, e5]; refine A1 c1 ?_; simp -implicitDefEqProofs [B0, B8, e1, e5]; refine A1 c2 ?_; simp -implicitDefEqProofs [B0, B8, e1, e5]; refine F0 c4 ?_; simp -implicitDefEqProofs [B0, B8, e1, e5]; refine F0 c5 ?_; simp -implicitDefEqProofs [B0, B8, e1, e5]; refine A1 c6 ?_; simp -implicitDefEqProofs [B0, B8, e1, e5]
    rw [e6] at c6; have hR2 : 0 = R := by rw [← hR]; simp [hv, G3, G7, J3, I9, e1, e4, hla, e5, e6]
    rw [← hR2]; simp -implicitDefEqProofs [B0, B8, e1, e5]; refine A1 c1 ?_; simp -implicitDefEqProofs [B0, B8, e1, e5]; refine A1 c2 ?_; simp -implicitDefEqProofs [B0, B8, e1, e5]; refine F0 c4 ?_; simp -implicitDefEqProofs [B0, B8, e1, e5]; refine F0 c5 ?_; simp -implicitDefEqProofs [B0, B8, e1, e5]; refine A1 c6 ?_; simp -implicitDefEqProofs [B0, B8, e1, e5]
  case inr.inr.inr.inr =>
    by_cases e1 : nm = []
    case neg =>
      have hR2 : 4 = R := by rw [← hR]; simp [hv, G3, G7, J3, I9, e1]
      rw [← hR2]; simp -implicitDefEqProofs [B0, B8, e1]; refine A1 c1 ?_; simp -implicitDefEqProofs [B0, B8, e1]; refine A1 c2 ?_; simp -implicitDefEqProofs [B0, B8, e1]
    by_cases e4 : M0 at_ = true
    case neg =>
      have e4' : M0 at_ = false := (by simpa using e4); rw [e4'] at c4; have hR2 : 5 = R := by rw [← hR]; simp [hv, G3, G7, J3, I9, e1, e4']
      rw [← hR2]; simp -implicitDefEqProofs [B0, B8, e1]; refine A1 c1 ?_; simp -implicitDefEqProofs [B0, B8, e1]; refine A1 c2 ?_; simp -implicitDefEqProofs [B0, B8, e1]; refine F0 c4 ?_; simp -implicitDefEqProofs [B0, B8, e1]
    rw [e4] at c4; generalize hla : D6 at_ = la at *; by_cases e5 : la = at_
    case neg =>
      have hR2 : 5 = R := by rw [← hR]; simp [hv, G3, G7, J3, I9, e1, e4, hla, e5]
      rw [← hR2]; simp -implicitDefEqProofs [B0, B8, e1, e5]; refine A1 c1 ?_; simp -implicitDefEqProofs [B0, B8, e1, e5]; refine A1 c2 ?_; simp -implicitDefEqProofs [B0, B8, e1, e5]; refine F0 c4 ?_; simp -implicitDefEqProofs [B0, B8, e1, e5]; refine F0 c5 ?_; simp -implicitDefEqProofs [B0, B8, e1, e5]
    by_cases e6 : J7 va = true
    case neg =>
      have e6' : J7 va = false := (by simpa using e6); rw [e6'] at c6; have hR2 : 8 = R := by rw [← hR]; simp [hv, G3, G7, J3, I9, e1, e4, hla, e5, e6']
      rw [← hR2]; simp -implicitDefEqProofs [B0, B8, e1, e5]; refine A1 c1 ?_; simp -implicitDefEqProofs [B0, B8, e1, e5]; refine A1 c2 ?_; simp -implicitDefEqProofs [B0, B8, e1, e5]; refine F0 c4 ?_; simp -implicitDefEqProofs [B0, B8, e1, e5]; refine F0 c5 ?_; simp -implicitDefEqProofs [B0, B8, e1, e5]; refine A1 c6 ?_; simp -implicitDefEqProofs [B0, B8, e1, e5]
    rw [e6] at c6; have hR2 : 0 = R := by rw [← hR]; simp [hv, G3, G7, J3, I9, e1, e4, hla, e5, e6]
    rw [← hR2]; simp -implicitDefEqProofs [B0, B8, e1, e5]; refine A1 c1 ?_; simp -implicitDefEqProofs [B0, B8, e1, e5]; refine A1 c2 ?_; simp -implicitDefEqProofs [B0, B8, e1, e5]; refine F0 c4 ?_; simp -implicitDefEqProofs [B0, B8, e1, e5]; refine F0 c5 ?_; simp -implicitDefEqProofs [B0, B8, e1, e5]; refine A1 c6 ?_; simp -implicitDefEqProofs [B0, B8, e1, e5]
structure b7T (w w' : World) (b g : Nat) (cs : Array Value) : Prop where
  heap : w'.heap = ((w.setCell ⟨b, 1, none⟩ (.slice (some ⟨g, 0, none⟩) 0 cs.size)).alloc (.cells cs 5)).heap
  os : w'.os = w.os
  tape : w'.tape = w.tape
  output : w'.output = w.output
  drawn : w.drawn ≤ w'.drawn
set_option maxRecDepth 1000000 in
set_option maxHeartbeats 2000000 in
theorem c1W (b n : Nat) (w : World) (hbk : w.heap[b]? = some (.cells #[va b, .slice none 0 0] 175 (0, 0))) (hn : n ≤ 281474976710656) :
    Calls prog 242 #[va b, .int .i64 n] w fun e w' => e = .returned (.tuple #[]) ∧ ∃ cs : Array Value, n ≤ cs.size ∧ (n ≤ maxLen → cs.size ≤ maxLen) ∧ b7T w w' b w.heap.size cs := by
  obtain ⟨cs, hrun, hle, hmax⟩ := Lib.run_makeNoZero (P := prog) w.drew #[3] 66 5 Tryz.underlying66 n hn; have hw : IntKind.i64.wrap (IntKind.i64.wrap 0 + (n : Int)) = n := by
    rw [IntKind.wrap_i64, IntKind.wrap_i64]; omega
  have hcall : (callFunc 254 #[.int .i64 (IntKind.i64.wrap (IntKind.i64.wrap 0 + (n : Int)))]).run prog w.drew = .ok (.value (.slice (some ⟨w.drew.heap.size, 0, none⟩) n cs.size)) (w.drew.drew.drew.alloc (.cells cs 5)) := by
    rw [hw, run_callFunc_extern func254 (by kernel_rfl) (by kernel_rfl) (by kernel_rfl) (e := Extern.BytealgMakeNoZero.makeNoZero #[3] #[66]) (by kernel_rfl), hrun]; rfl
  have hlt : b < w.heap.size := (Array.getElem?_eq_some_iff.1 hbk).1; have c1 : w.drew.cell? ⟨b, 1, none⟩ = some (.slice none 0 0) := by
    have : w.drew.heap[b]? = _ := hbk; rw [Lib.cell_of_heap this]; rfl
  have c2 : (w.alloc (.cells cs 5)).cell? ⟨b, 1, none⟩ = some (.slice none 0 0) := by
    have : (w.alloc (.cells cs 5)).heap[b]? = _ := (Lib.alloc_old w _ b hlt).trans hbk; rw [Lib.cell_of_heap this]; rfl
  have f2 : (w.alloc (.cells cs 5)).frozen? ⟨b, 1, none⟩ = false := Lib.frozen_of_heap ((Lib.alloc_old w _ b hlt).trans hbk) 1; have hcopy : ∀ W : World, (Builtin.copy_ #[66, 66] 3 #[.slice (some ⟨w.heap.size, 0, none⟩) 0 cs.size, .slice none 0 0]).run prog W = .ok (goInt 0) W :=
    fun W => run_copy_none W 66 100 3 5 _ _ 0 cs.size 0 0 Tryz.underlying66 a7l rfl
  clear hw; have mixed : prog.follows .mixedOrders = true := by kernel_rfl
  go_enter func242, Tryz.ntmps242
  go_wp2
  go_region_o
  all_goals (go_wp2; go_end0; exact ⟨rfl, cs, hle, hmax, rfl, rfl, rfl, rfl, Nat.le_add_right w.drawn 3⟩)
set_option maxRecDepth 1000000 in
set_option maxHeartbeats 2000000 in
theorem c2t (b n : Nat) (w : World) (hbk : w.heap[b]? = some (.cells #[.pointer none, .slice none 0 0] 175 (0, 0))) (hn0 : 0 < n) (hn : n ≤ 281474976710656) :
    Calls prog 210 #[va b, .int .i64 n] w fun e w' => e = .returned (.tuple #[]) ∧ ∃ cs : Array Value, n ≤ cs.size ∧ (n ≤ maxLen → cs.size ≤ maxLen) ∧ b7T (w.setCell ⟨b, 0, none⟩ (va b)) w' b w.heap.size cs := by
  have hbk1 : (w.setCell ⟨b, 0, none⟩ (va b)).heap[b]? = some (.cells #[va b, .slice none 0 0] 175 (0, 0)) := by
    simp [World.setCell, Array.getElem?_modify, hbk]
  have c1 : (w.setCell ⟨b, 0, none⟩ (va b)).cell? ⟨b, 1, none⟩ = some (.slice none 0 0) := by rw [Lib.cell_of_heap hbk1]; rfl
  have hsz : (w.setCell ⟨b, 0, none⟩ (va b)).heap.size = w.heap.size := (by simp [World.setCell]); have mixed : prog.follows .mixedOrders = true := by kernel_rfl
  have hw : (IntKind.i64.wrap (IntKind.i64.wrap 0) : Int) = 0 := by rw [IntKind.wrap_i64]; decide
  have hneg : ¬ ((n : Int) < 0) := (by omega); have hpos : (0 : Int) < n := (by omega); have e132 : ∀ args w, (callFunc 206 args).run prog w = .ok (.enter 206 args) w := enters_of func206 (by kernel_rfl) rfl; have e182 : ∀ args w, (callFunc 242 args).run prog w = .ok (.enter 242 args) w := enters_of func242 (by kernel_rfl) rfl
  go_enter func210, Tryz.ntmps210
  go_wp2_with (go_at_call 206; refine (b4s b w (by rw [Lib.cell_of_heap hbk]; rfl) (by simp [World.shape?, hbk]) (Lib.frozen_of_heap hbk 0)).mono ?_; rintro e w' ⟨rfl, rfl⟩)
  have c1' : (w.setCell ⟨b, 0, none⟩ (va b)).drew.cell? ⟨b, 1, none⟩ = some (.slice none 0 0) := c1; have fin : ∀ (w' : World) (cs : Array Value), b7T (w.setCell ⟨b, 0, none⟩ (va b)).drew w' b (w.setCell ⟨b, 0, none⟩ (va b)).drew.heap.size cs → b7T (w.setCell ⟨b, 0, none⟩ (va b)) w' b w.heap.size cs := fun w' cs h => by
    have e : (w.setCell ⟨b, 0, none⟩ (va b)).drew.heap.size = w.heap.size := hsz; rw [e] at h; exact ⟨h.heap, h.os, h.tape, h.output, Nat.le_trans (Nat.le_succ _) h.drawn⟩
  go_region_o
  all_goals go_wp2_with (go_at_call 242; refine (c1W b n (w.setCell ⟨b, 0, none⟩ (va b)).drew hbk1 hn).mono ?_; rintro e w' ⟨rfl, cs, h1, h2, h3⟩)
  all_goals first
    | (go_end0; exact ⟨rfl, cs, h1, h2, fin _ _ h3⟩)
    | trace_state
theorem c3R {b n : Nat} (h0 : 0 < n) (hn : n ≤ 140737488355328) :
    G8 prog 210 [.d (.raw (va b)), .d (.int .i64 n)] (bld b .nilp (.slice none 0 0) []) (fun r hs' => r = .tup [] ∧ ∃ hd', hs' = bld b (.raw (va b)) hd' []) := by
  refine ⟨enters_of func210 (by kernel_rfl) rfl, fun w L vals hlok hgl hv hh _ => ?_⟩; simp only [RCs] at hv; obtain ⟨v, us, rfl, hv1, v2, us2, rfl, hv2, rfl⟩ := hv; obtain rfl : v = va b := RepV.raw_inv hv1; obtain rfl : v2 = .int .i64 n := RepV.int_inv hv2; have hb : Y6 w L (some b) 175 (.agg [.nilp, .raw (.slice none 0 0)]) (va b) := (hh (.hb (va b) 175 (.agg [.nilp, .raw (.slice none 0 0)])) (by simp)).2; obtain ⟨pv, e1, e2, e3, e4, e5⟩ := a6Y (.inl rfl) hb; obtain rfl : pv = .pointer none := by
    rcases e5 with ⟨_, h⟩ | ⟨h, _⟩
    · exact h
    · cases h
  have hlt : b < w.heap.size := (Array.getElem?_eq_some_iff.1 e1).1; refine (c2t b n w e1 h0 (by omega)).mono ?_; rintro e w' ⟨rfl, cs, h1, h2, h3⟩; have hcm := h2 (by unfold maxLen; omega); have hsz0 : (w.setCell ⟨b, 0, none⟩ (va b)).heap.size = w.heap.size := (by simp [World.setCell]); have hsz1 : ((w.setCell ⟨b, 0, none⟩ (va b)).setCell ⟨b, 1, none⟩ (.slice (some ⟨w.heap.size, 0, none⟩) 0 cs.size)).heap.size = w.heap.size := (by simp [World.setCell]); have hsz : w'.heap.size = w.heap.size + 1 := by rw [h3.heap, a6v, hsz1]
  have hold : ∀ k, k < w.heap.size → k ≠ b → w'.heap[k]? = w.heap[k]? := fun k hk hne => by
    rw [h3.heap, Lib.alloc_old _ _ k (by rw [hsz1]; exact hk)]; rw [Below.heap_setCell _ _ _ k hne, Below.heap_setCell _ _ _ k hne]
  have hbk : w'.heap[b]? = some (.cells #[va b, .slice (some ⟨w.heap.size, 0, none⟩) 0 cs.size] 175 (0, 0)) := by
    rw [h3.heap, Lib.alloc_old _ _ b (by rw [hsz1]; exact hlt)]; simp [World.setCell, Array.getElem?_modify, e1]
  have hgk : w'.heap[w.heap.size]? = some (.cells cs 5 (0, 0)) := by
    rw [h3.heap]
    show (((w.setCell ⟨b, 0, none⟩ (va b)).setCell ⟨b, 1, none⟩ (.slice (some ⟨w.heap.size, 0, none⟩) 0 cs.size)).heap.push (.cells cs 5))[w.heap.size]? = _
    rw [Array.getElem?_push, if_pos hsz1.symm]
  have hfree : ∀ q, ¬ L w.heap.size q := fun q hq => by have := hlok _ q hq; omega
  have hblk1 : (bld b .nilp (.slice none 0 0) []).map B9 = [some b, none] := rfl; refine ⟨_, L, none, .tup [], bld b (.raw (va b)) (.slice (some ⟨w.heap.size, 0, none⟩) 0 cs.size) [], rfl, ⟨h3.os, h3.tape, h3.output, by omega, fun k hk hn => hold k hk (fun e => hn (by rw [hblk1]; simp [e])), h3.drawn⟩,
    fun c q hq => by have := hlok c q hq; omega, fun _ _ _ _ => Iff.rfl, fun g hg => ?_, ?_, ⟨[], rfl, rfl⟩, fun x hx => ?_, rfl, _, rfl⟩
  · simp [B9, Value.ownBlock] at hg; rcases hg with rfl | rfl
    · exact ⟨by omega, .inr (by rw [hblk1]; simp)⟩
    · exact ⟨by omega, .inl (Nat.le_refl _)⟩
  · simp only [J6, B9, List.map_cons, List.map_nil, Value.ownBlock]; refine ⟨by simp, ?_, ?_, trivial⟩
    · intro g hg; simp at hg ⊢; omega
    · intro g hg; simp
  · simp only [List.mem_cons, List.not_mem_nil, or_false] at hx; rcases hx with rfl | rfl
    · exact a9o hbk e2 rfl rfl
    · refine ⟨rfl, [], 1, by rw [W2 (by decide)]; exact a7l, by simp [A4, B4], by simp, ⟨rfl, .inr ⟨w.heap.size, cs.size, cs, rfl, by rw [W2 (by decide), a5P (by decide)]; exact hgk, Nat.zero_le _, hcm, by omega, by simp [B4]⟩⟩, fun g hg => ?_⟩; have : g = w.heap.size := (by simpa [Value.ownBlock] using hg.symm); subst this; exact ⟨rfl, fun o => ⟨fun h => absurd h (hfree o), fun h => by simp at h⟩⟩
def nT (l : List Str) (k : Nat) : Nat := (l.length - 1) + ((l.take k).map List.length).sum
theorem c3W (l : List Str) : nT l 0 = l.length - 1 := by simp [nT]
theorem b6o {l : List Str} {k : Nat} (hk : k < l.length) : nT l (k + 1) = nT l k + List.length l[k] := by
  unfold nT; rw [J0 hk, List.map_append, List.sum_append]; simp; omega
theorem a4a (c : UInt8) : ∀ l : List Str, (D8 c l).length = (l.length - 1) + (l.map List.length).sum
  | [] => rfl
  | [p] => by simp [D8]
  | p :: q :: ps => by
    have := a4a c (q :: ps); simp only [D8, List.length_append, List.length_cons, List.map_cons, List.sum_cons] at this ⊢; omega
theorem b9a (c : UInt8) (l : List Str) {k : Nat} (hk : l.length ≤ k) : nT l k = (D8 c l).length := by
  unfold nT; rw [ttl hk, a4a]
theorem a8k (l : List Str) : ∀ {k m : Nat}, k ≤ m → nT l k ≤ nT l m := by
  intro k m h
  induction h with
  | refl => exact Nat.le_refl _
  | step h ih =>
    rename_i m
    by_cases hm : m < l.length
    · rw [b6o hm]; omega
    · refine Nat.le_trans ih ?_; unfold nT; rw [ttl (by omega), ttl (by omega)]; exact Nat.le_refl _
theorem b5z {c : UInt8} {l : List Str} {k : Nat} (h : k < l.length) (h0 : 0 < k) : D8 c (l.take (k + 1)) = D8 c (l.take k) ++ c :: l[k] := by
  rw [J0 h]; have : ∀ (m : List Str) (p : Str), m ≠ [] → D8 c (m ++ [p]) = D8 c m ++ c :: p := by
    intro m p hm
    induction m with
    | nil => exact absurd rfl hm
    | cons x m ih =>
      cases m with
      | nil => simp [D8]
      | cons y m => simp only [List.cons_append, D8] at ih ⊢; rw [ih (by simp)]; simp
  exact this _ _ (fun e => by have := congrArg List.length e; simp only [List.length_take, List.length_nil] at this; omega)
theorem b4g (c : UInt8) (l : List Str) (m : Nat) : (D8 c (l.take m)).length ≤ (D8 c l).length := by
  have h1 := a8k l (Nat.le_add_right m l.length); rw [b9a c l (show l.length ≤ m + l.length by omega)] at h1; refine Nat.le_trans ?_ h1; rw [a4a]; unfold nT; have : (l.take m).length ≤ l.length := by simp; omega
  omega
theorem c1r (l : List Str) (c : UInt8) (hl : l.length < 1000000) (hj : (D8 c l).length ≤ 140737488355328) : Ctr prog 180 [.d (B6 l), .d (.str [c])] (.d (.str (D8 c l))) := by
  refine fv (fun i => i == 1000008 || i == 5000057 || i == 5000061 || i == 5000070 || i == 5000072 || i == 5000074) func180 (by kernel_rfl) rfl rfl rfl rfl rfl ?_; by_cases h0 : l = []
  · subst h0; simp -implicitDefEqProofs [B6, D8]
  by_cases h1 : l.length = 1
  · obtain ⟨p, rfl⟩ : ∃ p, l = [p] := List.length_eq_one_iff.1 h1; simp -implicitDefEqProofs [B6, D8]
  have hl0 : 0 < l.length := List.length_pos_iff.2 h0; have h2 : 2 ≤ l.length := (by omega); have h0' : ¬ (l.length : Int) = 0 := (by omega); have h1' : ¬ (l.length : Int) = 1 := (by omega); have hq : ¬ (9223372036854775807 / ((l.length : Int) - 1) ≤ 1) := by
    have : 2 ≤ 9223372036854775807 / ((l.length : Int) - 1) := (Int.le_ediv_iff_mul_le (by omega)).2 (by omega); omega
  have hqr : 9223372036854775807 / ((l.length : Int) - 1) ≤ 9223372036854775807 := Int.ediv_le_self _ (by decide); have hq0 : 0 ≤ 9223372036854775807 / ((l.length : Int) - 1) := Int.ediv_nonneg (by decide) (by omega); have hall := b9a c l (Nat.le_refl _); have hz := c3W l; simp -implicitDefEqProofs [B6, h0', h1', h0, h1, hq]; (repeat refine ai (by omega) ?_); refine H2 l.length (fun k τ => τ 0 = .d (.sl (l.map .str)) ∧ τ 1 = .d (.str [c]) ∧ τ 39 = .d (.sl (l.map .str)) ∧ τ 40 = .d (.int .i64 l.length) ∧ τ 41 = .d (.int .i64 k) ∧ τ 5 = .d (.int .i64 ((nT l k : Nat) : Int)) ∧ τ 1000000 = .undef ∧ τ 1000001 = .undef) ⟨by simp, by simp, by simp, by simp, by simp, by simp [hz]; omega, by simp, by simp⟩ ?_; rintro k τ hk ⟨q0, q1, q39, q40, q41, q5, qa, qb⟩; have hmk := a8k l hk; by_cases hlt : k < l.length
  · have hlt' : (k : Int) < l.length := (by omega); have hs := b6o hlt; have hms := a8k l (show k + 1 ≤ l.length by omega); generalize hx : l[k] = x at *; have hg : ¬ (9223372036854775807 - ((nT l k : Nat) : Int) < List.length x) := (by omega); simp -implicitDefEqProofs [q0, q1, q39, q40, q41, q5, hlt, hlt', hx, hg]; (repeat refine ai (by omega) ?_); refine D7 hlt ⟨by simp [q0], by simp [q1], by simp [q39], by simp [q40], by simp, by simp [hs], by simp [qa], by simp [qb]⟩
  have hlt' : ¬ (k : Int) < l.length := (by omega); obtain rfl : k = l.length := by omega
  have hn0 : 0 < nT l l.length := by have := a8k l (Nat.zero_le l.length); omega
  rw [hall] at hn0 q5; simp -implicitDefEqProofs [q0, q1, q39, q40, q41, q5, hlt']; refine b3m 1000000 1000001 5 (by simp [qb]) (by kernel_rfl) (by simp [qa]) (by simp) (fun b => ?_); simp -implicitDefEqProofs [q0, q1, q5]; refine M2 [1000000, 1000001] 1000000 (c3R (b := b) hn0 hj) (by simp [b3q, B4]) rfl (by simp) ?_; rintro r hs' ⟨rfl, hd, rfl⟩; obtain ⟨x0, l1, rfl⟩ : ∃ x l1, l = x :: l1 := by
    cases l with
    | nil => exact absurd rfl h0
    | cons x l1 => exact ⟨x, l1, rfl⟩
  have hm0 := b4g c (x0 :: l1) 1; simp only [List.take_succ_cons, List.take_zero, D8] at hm0; simp -implicitDefEqProofs [q0, q1, C0, D1]; (repeat refine ai (by omega) ?_); refine M2 [1000000, 1000001] 1000000 (a0m (s := []) (hd := hd) (.inr rfl) x0 (by simp only [List.length_nil]; omega)) (by simp) rfl (by simp) ?_; rintro r hs' ⟨hd1, rfl⟩; simp -implicitDefEqProofs [q0, q1, C0, D1]; clear hall hz hn0 q39 q40 q41 q5 hk hmk hlt hlt' hq hqr hq0 h0' h1' hl0 h0 h1; simp only [List.length_cons] at h2 hl; refine H2 l1.length (fun k τ => τ 1 = .d (.str [c]) ∧ τ 63 = .d (.sl (l1.map .str)) ∧ τ 64 = .d (.int .i64 l1.length) ∧ τ 65 = .d (.int .i64 k) ∧ τ 8 = .d (.raw (va b)) ∧ a8y τ b (D8 c ((x0 :: l1).take (k + 1)))) ?_ ?_
  · refine ⟨by simp [q1], ?_, ?_, by simp, by simp, .raw (va b), hd1, .inr rfl, by simp, by simp [D8]⟩
    · simp; try exact ttl (by simp)
    · simp
  clear q0 q1 qa qb τ; rintro k τ hk ⟨q1, q63, q64, q65, q8, p, hd2, hp, hb, hh⟩; by_cases hlt : k < l1.length
  · have hlt' : (k : Int) < l1.length := (by omega); have hs := b5z (c := c) (l := x0 :: l1) (k := k + 1) (by simp; omega) (by omega); have hle := b4g c (x0 :: l1) (k + 1 + 1); rw [hs] at hle; simp only [List.getElem_cons_succ] at hs hle; generalize hx : l1[k] = x at *; rw [List.length_append, List.length_cons] at hle; have hs3 := hs; rw [List.take_succ_cons] at hs3; generalize D8 c ((x0 :: l1).take (k + 1)) = J at *; simp -implicitDefEqProofs [q1, q63, q64, q65, q8, hlt, hlt', hx]; refine M2 [1000000, 1000001] 1000000 (a0m (s := J) (hd := hd2) hp [c] (by simp only [List.length_cons, List.length_nil]; omega)) (by simp [hb, hh]) rfl (by simp) ?_; rintro r hs' ⟨hd3, rfl⟩; simp -implicitDefEqProofs [q1, q63, q64, q65, q8, C0, D1]; refine M2 [1000000, 1000001] 1000000 (a0m (s := J ++ [c]) (hd := hd3) (.inr rfl) x (by simp only [List.length_append, List.length_cons, List.length_nil]; omega)) (by simp) rfl (by simp) ?_; rintro r hs' ⟨hd4, rfl⟩; simp -implicitDefEqProofs [q1, q63, q64, q65, q8, C0, D1]; (repeat refine ai (by omega) ?_); refine D7 hlt ⟨by simp [q1], by simp [q63], by simp [q64], by simp, by simp [q8], .raw (va b), hd4, .inr rfl, by simp, by simp [hs3]⟩
  · have hlt' : ¬ (k : Int) < l1.length := (by omega); rw [ttl (by simp; omega)] at hh; simp -implicitDefEqProofs [q1, q63, q64, q65, q8, hlt']; refine M2 [1000000, 1000001] 1000000 (a4v (b := b) (s := D8 c (x0 :: l1)) (hd := hd2) hp) (by simp [hb, hh]) rfl (by simp) ?_; rintro r hs' ⟨rfl, rfl⟩; simp -implicitDefEqProofs [C0, D1]
theorem a7p : a7S prog 0 = some (.sl [.str [], .str [99, 114, 101, 97, 116, 101], .str [114, 101, 109, 111, 118, 101], .str [114, 101, 110, 97, 109, 101], .str [112, 117, 116], .str [100, 114, 111, 112]]) := by kernel_rfl
theorem a7b (l : List Str) (hl : l.length < 1000000) (hj : (D8 32 l).length ≤ 140737488355328) : Ctr prog 125 [.d (B6 l)] (.d (.str (D8 32 l))) := by
  refine fv (fun _ => false) func125 (by kernel_rfl) rfl rfl rfl rfl rfl ?_; have c1 := c1r l 32 hl hj; simp -implicitDefEqProofs; refine A1 c1 ?_; simp -implicitDefEqProofs
theorem c6w (a b i e : Str) : D8 32 [D8 32 [a, b, i], e] = D8 32 [a, b, i, e] := by simp [D8]
theorem c7L (a b i e g : Str) : D8 32 [D8 32 [a, b, i], e, g] = D8 32 [a, b, i, e, g] := by simp [D8]
theorem b7y {c : Chg} (h : Q4 c ≠ 0) : N6 c = ([], Q4 c) := by rw [N6, if_neg h]
theorem b8B {c : Chg} (h : Q4 c = 0) : N6 c = (a1q c, 0) := by rw [N6, if_pos h]
theorem c3Z (x : Int) : (opW x).length ≤ 6 := by unfold opW; (repeat' split) <;> decide
theorem b6k (c : Chg) (hc : S4 c) : Ctr prog 76 [.d (B0 c)] (.tup [.d (.str (N6 c).1), .d (.int .i64 (N6 c).2)]) := by
  refine H1 (rv := .tmp 2) (rs := [.tmp 3]) (r := .d (.str (N6 c).1)) (ys := [.d (.int .i64 (N6 c).2)]) (fun i => false) (by kernel_rfl) func76 (by kernel_rfl) rfl rfl (by simp) (nbl rfl) (by kernel_rfl) rfl rfl ?_; have c1 := a8p c hc; by_cases h0 : Q4 c = 0
  case neg =>
    rw [b7y h0]; generalize Q4 c = E at *; simp only [B8, B0] at c1; simp -implicitDefEqProofs [B0, B8]; refine A1 c1 ?_; simp -implicitDefEqProofs [h0]
  have ho := a7z.1 h0; rw [b8B h0]; rw [h0] at c1; obtain ⟨f1, f2, f3, f4⟩ := hc; obtain ⟨n, op, id, nm, at_, va⟩ := c; simp only at f1 f2 f3 f4; have c2 := a4M n; have hf : (Q8 n).length = 22 := a8F ho.num; have hw := c3Z op; have e1 := a6q nm; have e2 := a6q at_; have e3 := a6q va; have c6 := a7H nm (by omega); have c7 := a7H at_ (by omega); have c8 := a7H va (by omega); have o1 : 1 ≤ op := ho.op1; have o5 : op ≤ 5 := ho.op5; have c3 := a7b [opW op, Q8 n, id] (by simp) (by simp only [D8, List.length_append, List.length_cons]; omega); have c4 := a7b [D8 32 [opW op, Q8 n, id], a0l nm] (by simp) (by simp only [D8, List.length_append, List.length_cons]; omega); have c5 := a7b [D8 32 [opW op, Q8 n, id], a0l at_, a0l va] (by simp) (by simp only [D8, List.length_append, List.length_cons]; omega); rw [c6w] at c4; rw [c7L] at c5; simp only [B6, List.map_cons, List.map_nil] at c3 c4 c5; have hl : a1q (n, op, id, nm, at_, va) = D8 32 (b4Z (n, op, id, nm, at_, va)) := rfl; rw [hl]; simp only [b4Z]; generalize Q8 n = F at *; simp only [B8, B0] at c1 c2; have hr3 : ([0, 1, 2] : List Nat) = List.range 3 := (by decide); have hr2 : ([0, 1] : List Nat) = List.range 2 := (by decide); have hop : op = 1 ∨ op = 2 ∨ op = 3 ∨ op = 4 ∨ op = 5 := (by omega); rcases hop with rfl | rfl | rfl | rfl | rfl
  · rw [show opW 1 = [99, 114, 101, 97, 116, 101] from rfl] at c3 c4 c5 ⊢; rw [show G3 1 = true from rfl, show G7 1 = false from rfl]; rw [if_pos rfl]; simp -implicitDefEqProofs [B0, B8]; refine A1 c1 ?_; simp -implicitDefEqProofs [a7p]; refine F0 c2 ?_; simp -implicitDefEqProofs; refine ⟨by decide, F0 c3 ?_⟩; simp -implicitDefEqProofs; refine A1 c6 ?_; simp -implicitDefEqProofs; refine ⟨by decide, A1 c4 ?_⟩; simp -implicitDefEqProofs
  · rw [show opW 2 = [114, 101, 109, 111, 118, 101] from rfl] at c3 c4 c5 ⊢; rw [show G3 2 = false from rfl, show G7 2 = false from rfl]; rw [if_neg (by simp), if_neg (by simp)]; simp -implicitDefEqProofs [B0, B8]; refine A1 c1 ?_; simp -implicitDefEqProofs [a7p]; refine F0 c2 ?_; simp -implicitDefEqProofs; refine ⟨by decide, F0 c3 ?_⟩; simp -implicitDefEqProofs
  · rw [show opW 3 = [114, 101, 110, 97, 109, 101] from rfl] at c3 c4 c5 ⊢; rw [show G3 3 = true from rfl, show G7 3 = false from rfl]; rw [if_pos rfl]; simp -implicitDefEqProofs [B0, B8]; refine A1 c1 ?_; simp -implicitDefEqProofs [a7p]; refine F0 c2 ?_; simp -implicitDefEqProofs; refine ⟨by decide, F0 c3 ?_⟩; simp -implicitDefEqProofs; refine A1 c6 ?_; simp -implicitDefEqProofs; refine ⟨by decide, A1 c4 ?_⟩; simp -implicitDefEqProofs
  · rw [show opW 4 = [112, 117, 116] from rfl] at c3 c4 c5 ⊢; rw [show G3 4 = false from rfl, show G7 4 = true from rfl]; rw [if_neg (by simp), if_pos rfl]; simp -implicitDefEqProofs [B0, B8]; refine A1 c1 ?_; simp -implicitDefEqProofs [a7p]; refine F0 c2 ?_; simp -implicitDefEqProofs; refine ⟨by decide, F0 c3 ?_⟩; simp -implicitDefEqProofs; refine F0 c7 ?_; simp -implicitDefEqProofs; refine F0 c8 ?_; simp -implicitDefEqProofs; refine ⟨by decide, F0 c5 ?_⟩; simp -implicitDefEqProofs
  · rw [show opW 5 = [100, 114, 111, 112] from rfl] at c3 c4 c5 ⊢; rw [show G3 5 = false from rfl, show G7 5 = true from rfl]; rw [if_neg (by simp), if_pos rfl]; simp -implicitDefEqProofs [B0, B8]; refine A1 c1 ?_; simp -implicitDefEqProofs [a7p]; refine F0 c2 ?_; simp -implicitDefEqProofs; refine ⟨by decide, F0 c3 ?_⟩; simp -implicitDefEqProofs; refine F0 c7 ?_; simp -implicitDefEqProofs; refine F0 c8 ?_; simp -implicitDefEqProofs; refine ⟨by decide, F0 c5 ?_⟩; simp -implicitDefEqProofs
structure d4n (l : List Chg) : Prop where
  len : l.length < 900000
  all : ∀ c ∈ l, S4 c
end Go.Proofs.Tz
namespace Go.Proofs.Tz
open Go.Vw
abbrev Sl := Option Addr × Nat × Nat
def rw2 (x : Str × Sl) : D := .agg [.str x.1, .raw (.slice x.2.1 x.2.2.1 x.2.2.2)]
def V9 {α : Type} (p : α → Bool) : Nat → List α → Int
  | _, [] => -1
  | k, x :: l => if p x then k else V9 p (k + 1) l
theorem b8L {α : Type} {p : α → Bool} {l : List α} {k : Nat} (h : k < l.length) : V9 p k (l.drop k) = if p l[k] then (k : Int) else V9 p (k + 1) (l.drop (k + 1)) := by
  rw [List.drop_eq_getElem_cons h, V9]
theorem b2c (g : FuncId) (cs : List D) (hcs : (cs.all fun c => !c.isAgg) = true) (p : Str × Sl → Bool) (l : List (Str × Sl)) (hl : l.length < 1000000) (hp : ∀ a ∈ l, Ctr prog g ([.d (rw2 a)] ++ cs.map .d) (.d (.bool (p a)))) :
    Ctr prog 140 [.d (.sl (l.map rw2)), .d (.clo g cs)] (.d (.int .i64 (V9 p 0 l))) := by
  refine fv (fun _ => false) func140 (by kernel_rfl) rfl rfl rfl rfl rfl ?_; simp -implicitDefEqProofs; refine H2 l.length (fun k τ => τ 0 = .d (.sl (l.map rw2)) ∧ τ 1 = .d (.clo g cs) ∧ τ 7 = .d (.int .i64 l.length) ∧ τ 8 = .d (.int .i64 k) ∧ V9 p 0 l = V9 p k (l.drop k)) (by simp) ?_; rintro k τ hk ⟨h0, h1, h7, h8, hi⟩; by_cases hlt : k < l.length
  · rw [b8L hlt] at hi; have hf := hp _ (gmm hlt); simp only [rw2, List.cons_append, List.nil_append] at hf; simp -implicitDefEqProofs [h0, h1, h7, h8, rw2, hlt]; refine ⟨by simpa using hcs, A1 hf ?_⟩; by_cases he : p l[k] = true
    · simp -implicitDefEqProofs [h0, h1, h7, h8, rw2, hlt, he]; rw [hi, if_pos he]
    · simp -implicitDefEqProofs [h0, h1, h7, h8, rw2, hlt, he]; refine ⟨by omega, D7 hlt ⟨by simp [h0, rw2], by simp [h1], by simp [h7], by simp, ?_⟩⟩; rw [hi, if_neg he]
  · simp -implicitDefEqProofs [h0, h1, h7, h8, hlt]; rw [hi, List.drop_eq_nil_of_le (by omega)]; simp -implicitDefEqProofs [V9]
theorem a9v {α : Type} (p : α → Bool) : ∀ (l : List α) (k : Nat), V9 p k l = -1 → l.filter (fun x => !p x) = l
  | [], k, _ => rfl
  | x :: l, k, h => by
    rw [V9] at h; by_cases hx : p x = true
    · rw [if_pos hx] at h; omega
    · rw [if_neg hx] at h; simp -implicitDefEqProofs [hx, a9v p l (k + 1) h]
theorem a5K {α : Type} (p : α → Bool) : ∀ (l : List α) (k : Nat), V9 p k l ≠ -1 → ∃ i : Nat, V9 p k l = ((k + i : Nat) : Int) ∧ i < l.length ∧ (l.take i).filter (fun x => !p x) = l.take i ∧ (l.take (i + 1)).filter (fun x => !p x) = l.take i
  | [], k, h => absurd rfl h
  | x :: l, k, h => by
    rw [V9] at h ⊢; by_cases hx : p x = true
    · rw [if_pos hx]; exact ⟨0, by simp, by simp, by simp, by simp [hx]⟩
    · rw [if_neg hx] at h ⊢; obtain ⟨i, h1, h2, h3, h4⟩ := a5K p l (k + 1) h; refine ⟨i + 1, by rw [h1]; omega, by simpa using h2, ?_, ?_⟩
      · simp -implicitDefEqProofs [hx, h3]
      · rw [List.take_succ_cons, List.filter_cons, if_pos (by simp [hx]), h4, List.take_succ_cons]
theorem b7Z (g : FuncId) (cs : List D) (hcs : (cs.all fun c => !c.isAgg) = true) (p : Str × Sl → Bool) (l : List (Str × Sl)) (hl : l.length < 1000000) (hp : ∀ a ∈ l, Ctr prog g ([.d (rw2 a)] ++ cs.map .d) (.d (.bool (p a)))) :
    Ctr prog 142 [.own true 72 (l.map rw2), .d (.clo g cs)] (.own true 72 ((l.filter fun x => !p x).map rw2)) := by
  refine fv (fun i => i == 2000010) func142 (by kernel_rfl) rfl rfl rfl rfl rfl ?_; simp -implicitDefEqProofs; refine ⟨_, rfl, b2c g cs hcs p l hl hp, ?_⟩; by_cases hn : V9 p 0 l = -1
  · simp -implicitDefEqProofs [hn, a9v p l 0 hn]
  · obtain ⟨i, h1, h2, h3, h4⟩ := a5K p l 0 hn; simp only [Nat.zero_add] at h1; have e1 : ¬ ((i : Int) = -1) := (by omega); simp -implicitDefEqProofs [h1, e1]; refine ⟨by omega, ?_⟩; refine a3p (fun n τ => ∃ (j q : Nat) (m : List (Str × Sl)), n = l.length - j ∧ j ≤ l.length ∧ τ 0 = .own true 72 (m.map rw2) ∧ τ 1 = .d (.clo g cs) ∧ τ 5 = .d (.int .i64 q) ∧ τ 6 = .d (.int .i64 j) ∧ m.length = l.length ∧ q < j ∧ m.take q = (l.take j).filter (fun x => !p x) ∧ m.drop j = l.drop j)
      (l.length - (i + 1)) ⟨i + 1, i, l, rfl, by omega, by simp, by simp, by simp, by simp, rfl, by omega, h4.symm, rfl⟩ ?_
    rintro n τ ⟨j, q, m, rfl, hj, g0, g1, g5, g6, hm, hq, ht, hd⟩; by_cases hlt : j < l.length
    · have hmj : m[j]'(by omega) = l[j] := by
        have := congrArg (fun x : List (Str × Sl) => x[0]?) hd; simpa [hlt, hm] using this
      have hf := hp _ (gmm hlt); simp only [rw2, List.cons_append, List.nil_append] at hf; have hlt' : (j : Int) < l.length := (by omega); have hf' := hf; simp -implicitDefEqProofs [g0, g1, g5, g6, hm, hlt', hlt, rw2, hmj]; refine ⟨by simpa using hcs, A1 hf ?_⟩; by_cases he : p l[j] = true
      · simp -implicitDefEqProofs [g0, g1, g5, g6, hm, hlt', hlt, rw2, hmj, he]; refine ⟨by omega, _, ?_, j + 1, rfl, by omega, q, m, rfl, rfl, by omega, hm, by omega, ?_, ?_⟩
        · omega
        · rw [J0 hlt, List.filter_append, ht]; simp [he]
        · rw [← List.drop_drop, hd, List.drop_drop]
      · have hq2 : q < m.length := (by omega); have hqq : m[q]? = some m[q] := List.getElem?_eq_getElem hq2; simp -implicitDefEqProofs [g0, g1, g5, g6, hm, hlt', hlt, rw2, hmj, he, hqq]; refine ⟨by omega, by omega, by omega, _, ?_, j + 1, rfl, by omega, q + 1, m.set q l[j], ?_, by simp, by simp, by simpa using hm, by omega, ?_, ?_⟩
        · omega
        · rw [List.map_set]; rfl
        · rw [List.take_set, J0 hq2, List.set_append_right _ _ (by simp; omega)]; simp only [List.length_take, Nat.min_eq_left (Nat.le_of_lt hq2), Nat.sub_self, List.set_cons_zero]; rw [J0 hlt, List.filter_append, ht]; simp [he]
        · rw [List.drop_set_of_lt (by omega), ← List.drop_drop, hd, List.drop_drop]
    · simp -implicitDefEqProofs [g0, g1, g5, g6, hm, hlt]; have hjl : j = l.length := (by omega); subst hjl; refine ⟨by omega, by omega, ?_⟩; rw [List.take_append_of_le_length (by simp; omega), List.take_take, Nat.min_self, ← List.map_take, ht, List.take_length]
end Go.Proofs.Tz
/-
  DERIVED: THE SHELF's CONTRACTS AT THIS DUMP, IN PLAIN WORDS (tools/lay-plain.mjs out of 'LcShP.lean', which tools/lay-shelf.mjs wrote): THE SAME DECLARATIONS UNDER THE SAME NAMES: 'import', 'namespace', 'open', 'def', 'theorem' AND NOTHING ELSE: no command of the shelf's: FOR A HAND-IN. Each laying: the table of numbers ('.._ren') and one theorem, a field a fact of the dump's own or the kernel's comparison; each contract: ONE APPLICATION.
-/
namespace Go.Proofs
open Go.Shelf
def Tryz.layS_ren : Go.Shelf.Ren := ⟨fun | 6 => 62 | 8 => 114 | 9 => 113 | 19 => 159 | 20 => 160 | 21 => 150 | 22 => 151 | 23 => 152 | 24 => 153 | 25 => 154 | 26 => 155 | 27 => 156 | 28 => 157 | 29 => 158 | 36 => 198 | 31 => 199 | 32 => 200 | 37 => 201 | 38 => 202 | 39 => 203 | 41 => 231 | n => n, fun | 27 => 43 | 29 => 9 | 3 => 3 | 32 => 132 | 26 => 43 | 0 => 0 | 44 => 166 | 46 => 168 | 4 => 4 | 36 => 158 | 35 => 157 | 41 => 163 | 5 => 5 | 9 => 9 | 53 => 197 | 57 => 201 | 63 => 218 | 64 => 219 | n => n, fun | n => n⟩
theorem Tryz.layS : Go.Proofs.SlLaysM.n6 prog Tryz.layS_ren := {
  mixed := by kernel_rfl
  f6 := ⟨Tryz.f62.name, by decide, func62.trans (congrArg some (by kernel_rfl))⟩
  f8 := func114.trans (congrArg some (by kernel_rfl))
  f9 := ⟨Tryz.f113.name, by decide, func113.trans (congrArg some (by kernel_rfl))⟩
  f19 := func159.trans (congrArg some (by kernel_rfl))
  f20 := func160.trans (congrArg some (by kernel_rfl))
  f21 := ⟨Tryz.f150.name, by decide, func150.trans (congrArg some (by kernel_rfl))⟩
  f22 := ⟨Tryz.f151.name, by decide, func151.trans (congrArg some (by kernel_rfl))⟩
  f23 := ⟨Tryz.f152.name, by decide, func152.trans (congrArg some (by kernel_rfl))⟩
  f24 := ⟨Tryz.f153.name, by decide, func153.trans (congrArg some (by kernel_rfl))⟩
  f25 := ⟨Tryz.f154.name, by decide, func154.trans (congrArg some (by kernel_rfl))⟩
  f26 := ⟨Tryz.f155.name, by decide, func155.trans (congrArg some (by kernel_rfl))⟩
  f27 := ⟨Tryz.f156.name, by decide, func156.trans (congrArg some (by kernel_rfl))⟩
  f28 := ⟨Tryz.f157.name, by decide, func157.trans (congrArg some (by kernel_rfl))⟩
  f29 := ⟨Tryz.f158.name, by decide, func158.trans (congrArg some (by kernel_rfl))⟩
  f31 := func199.trans (congrArg some (by kernel_rfl))
  f32 := func200.trans (congrArg some (by kernel_rfl))
  f36 := ⟨Tryz.f198.name, by decide, func198.trans (congrArg some (by kernel_rfl))⟩
  f37 := ⟨Tryz.f201.name, by decide, func201.trans (congrArg some (by kernel_rfl))⟩
  f38 := ⟨Tryz.f202.name, by decide, func202.trans (congrArg some (by kernel_rfl))⟩
  f39 := ⟨Tryz.f203.name, by decide, func203.trans (congrArg some (by kernel_rfl))⟩
  f41 := ⟨Tryz.f231.name, by decide, func231.trans (congrArg some (by kernel_rfl))⟩
  t0 := Tryz.underlying0
  a0 := Tryz.isAgg0
  z0 := Tryz.sizeOf0
  v0 := Tryz.zeroValue0
  t3 := Tryz.underlying3
  a3 := Tryz.isAgg3
  z3 := Tryz.sizeOf3
  v3 := Tryz.zeroValue3
  t4 := Tryz.underlying4
  a4 := Tryz.isAgg4
  z4 := Tryz.sizeOf4
  v4 := Tryz.zeroValue4
  t5 := Tryz.underlying5
  a5 := Tryz.isAgg5
  z5 := Tryz.sizeOf5
  v5 := Tryz.zeroValue5
  t9 := Tryz.underlying9
  a9 := Tryz.isAgg9
  z9 := Tryz.sizeOf9
  v9 := Tryz.zeroValue9
  t26 := Tryz.underlying43
  a26 := Tryz.isAgg43
  z26 := Tryz.sizeOf43
  v26 := Tryz.zeroValue43
  t27 := Tryz.underlying43
  a27 := Tryz.isAgg43
  z27 := Tryz.sizeOf43
  v27 := Tryz.zeroValue43
  t29 := Tryz.underlying9
  a29 := Tryz.isAgg9
  z29 := Tryz.sizeOf9
  v29 := Tryz.zeroValue9
  t32 := Tryz.underlying132
  a32 := Tryz.isAgg132
  z32 := Tryz.sizeOf132
  v32 := Tryz.zeroValue132
  t35 := Tryz.underlying157
  a35 := Tryz.isAgg157
  z35 := Tryz.sizeOf157
  v35 := Tryz.zeroValue157
  t36 := Tryz.underlying158
  a36 := Tryz.isAgg158
  z36 := Tryz.sizeOf158
  v36 := Tryz.zeroValue158
  t41 := Tryz.underlying163
  a41 := Tryz.isAgg163
  z41 := Tryz.sizeOf163
  v41 := Tryz.zeroValue163
  t44 := Tryz.underlying166
  a44 := Tryz.isAgg166
  z44 := Tryz.sizeOf166
  v44 := Tryz.zeroValue166
  t46 := Tryz.underlying168
  a46 := Tryz.isAgg168
  z46 := Tryz.sizeOf168
  v46 := Tryz.zeroValue168
  t53 := Tryz.underlying197
  a53 := Tryz.isAgg197
  z53 := Tryz.sizeOf197
  v53 := Tryz.zeroValue197
  t57 := Tryz.underlying201
  a57 := Tryz.isAgg201
  z57 := Tryz.sizeOf201
  v57 := Tryz.zeroValue201
  t63 := Tryz.underlying218
  a63 := Tryz.isAgg218
  z63 := Tryz.sizeOf218
  v63 := Tryz.zeroValue218
  t64 := Tryz.underlying219
  a64 := Tryz.isAgg219
  z64 := Tryz.sizeOf219
  v64 := Tryz.zeroValue219 }
def Tryz.layF_ren : Go.Shelf.Ren := ⟨fun | 6 => 145 | 15 => 114 | 14 => 189 | 28 => 159 | 29 => 160 | 20 => 218 | 21 => 219 | 22 => 220 | 23 => 221 | 24 => 222 | 25 => 223 | 26 => 224 | 27 => 225 | 46 => 245 | 47 => 199 | 48 => 200 | 49 => 246 | 50 => 247 | 57 => 255 | n => n, fun | 22 => 46 | 24 => 72 | 25 => 153 | 3 => 3 | 39 => 132 | 0 => 0 | 53 => 166 | 55 => 168 | 4 => 4 | 46 => 158 | 45 => 157 | 50 => 163 | 5 => 5 | 9 => 9 | 66 => 197 | 70 => 201 | 76 => 218 | 77 => 219 | n => n, fun | n => n⟩
theorem Tryz.layF : Go.Proofs.SlLaysF0.n6 prog Tryz.layF_ren := {
  mixed := by kernel_rfl
  f6 := ⟨Tryz.f145.name, by decide, func145.trans (congrArg some (by kernel_rfl))⟩
  f14 := ⟨Tryz.f189.name, by decide, func189.trans (congrArg some (by kernel_rfl))⟩
  f15 := func114.trans (congrArg some (by kernel_rfl))
  f20 := ⟨Tryz.f218.name, by decide, func218.trans (congrArg some (by kernel_rfl))⟩
  f21 := ⟨Tryz.f219.name, by decide, func219.trans (congrArg some (by kernel_rfl))⟩
  f22 := ⟨Tryz.f220.name, by decide, func220.trans (congrArg some (by kernel_rfl))⟩
  f23 := ⟨Tryz.f221.name, by decide, func221.trans (congrArg some (by kernel_rfl))⟩
  f24 := ⟨Tryz.f222.name, by decide, func222.trans (congrArg some (by kernel_rfl))⟩
  f25 := ⟨Tryz.f223.name, by decide, func223.trans (congrArg some (by kernel_rfl))⟩
  f26 := ⟨Tryz.f224.name, by decide, func224.trans (congrArg some (by kernel_rfl))⟩
  f27 := ⟨Tryz.f225.name, by decide, func225.trans (congrArg some (by kernel_rfl))⟩
  f28 := func159.trans (congrArg some (by kernel_rfl))
  f29 := func160.trans (congrArg some (by kernel_rfl))
  f46 := ⟨Tryz.f245.name, by decide, func245.trans (congrArg some (by kernel_rfl))⟩
  f47 := func199.trans (congrArg some (by kernel_rfl))
  f48 := func200.trans (congrArg some (by kernel_rfl))
  f49 := ⟨Tryz.f246.name, by decide, func246.trans (congrArg some (by kernel_rfl))⟩
  f50 := ⟨Tryz.f247.name, by decide, func247.trans (congrArg some (by kernel_rfl))⟩
  f57 := ⟨Tryz.f255.name, by decide, func255.trans (congrArg some (by kernel_rfl))⟩
  t0 := Tryz.underlying0
  a0 := Tryz.isAgg0
  z0 := Tryz.sizeOf0
  v0 := Tryz.zeroValue0
  t3 := Tryz.underlying3
  a3 := Tryz.isAgg3
  z3 := Tryz.sizeOf3
  v3 := Tryz.zeroValue3
  t4 := Tryz.underlying4
  a4 := Tryz.isAgg4
  z4 := Tryz.sizeOf4
  v4 := Tryz.zeroValue4
  t5 := Tryz.underlying5
  a5 := Tryz.isAgg5
  z5 := Tryz.sizeOf5
  v5 := Tryz.zeroValue5
  t9 := Tryz.underlying9
  a9 := Tryz.isAgg9
  z9 := Tryz.sizeOf9
  v9 := Tryz.zeroValue9
  t22 := Tryz.underlying46
  a22 := Tryz.isAgg46
  z22 := Tryz.sizeOf46
  v22 := Tryz.zeroValue46
  t25 := Tryz.underlying153
  a25 := Tryz.isAgg153
  z25 := Tryz.sizeOf153
  v25 := Tryz.zeroValue153
  t39 := Tryz.underlying132
  a39 := Tryz.isAgg132
  z39 := Tryz.sizeOf132
  v39 := Tryz.zeroValue132
  t45 := Tryz.underlying157
  a45 := Tryz.isAgg157
  z45 := Tryz.sizeOf157
  v45 := Tryz.zeroValue157
  t46 := Tryz.underlying158
  a46 := Tryz.isAgg158
  z46 := Tryz.sizeOf158
  v46 := Tryz.zeroValue158
  t50 := Tryz.underlying163
  a50 := Tryz.isAgg163
  z50 := Tryz.sizeOf163
  v50 := Tryz.zeroValue163
  t53 := Tryz.underlying166
  a53 := Tryz.isAgg166
  z53 := Tryz.sizeOf166
  v53 := Tryz.zeroValue166
  t55 := Tryz.underlying168
  a55 := Tryz.isAgg168
  z55 := Tryz.sizeOf168
  v55 := Tryz.zeroValue168
  t66 := Tryz.underlying197
  a66 := Tryz.isAgg197
  z66 := Tryz.sizeOf197
  v66 := Tryz.zeroValue197
  t70 := Tryz.underlying201
  a70 := Tryz.isAgg201
  z70 := Tryz.sizeOf201
  v70 := Tryz.zeroValue201
  t76 := Tryz.underlying218
  a76 := Tryz.isAgg218
  z76 := Tryz.sizeOf218
  v76 := Tryz.zeroValue218
  t77 := Tryz.underlying219
  a77 := Tryz.isAgg219
  z77 := Tryz.sizeOf219
  v77 := Tryz.zeroValue219 }
def Tryz.layT_ren : Go.Shelf.Ren := ⟨fun | 6 => 162 | 15 => 114 | 14 => 205 | 28 => 159 | 29 => 160 | 20 => 232 | 21 => 233 | 22 => 234 | 23 => 235 | 24 => 236 | 25 => 237 | 26 => 238 | 27 => 239 | 46 => 251 | 47 => 199 | 48 => 200 | 49 => 252 | 50 => 253 | 57 => 259 | n => n, fun | 22 => 43 | 24 => 9 | 25 => 106 | 3 => 3 | 39 => 132 | 0 => 0 | 53 => 166 | 55 => 168 | 4 => 4 | 46 => 158 | 45 => 157 | 50 => 163 | 5 => 5 | 9 => 9 | 66 => 197 | 70 => 201 | 76 => 218 | 77 => 219 | n => n, fun | n => n⟩
theorem Tryz.layT : Go.Proofs.SlLaysF.n6 prog Tryz.layT_ren := {
  mixed := by kernel_rfl
  f6 := ⟨Tryz.f162.name, by decide, func162.trans (congrArg some (by kernel_rfl))⟩
  f14 := ⟨Tryz.f205.name, by decide, func205.trans (congrArg some (by kernel_rfl))⟩
  f15 := func114.trans (congrArg some (by kernel_rfl))
  f20 := ⟨Tryz.f232.name, by decide, func232.trans (congrArg some (by kernel_rfl))⟩
  f21 := ⟨Tryz.f233.name, by decide, func233.trans (congrArg some (by kernel_rfl))⟩
  f22 := ⟨Tryz.f234.name, by decide, func234.trans (congrArg some (by kernel_rfl))⟩
  f23 := ⟨Tryz.f235.name, by decide, func235.trans (congrArg some (by kernel_rfl))⟩
  f24 := ⟨Tryz.f236.name, by decide, func236.trans (congrArg some (by kernel_rfl))⟩
  f25 := ⟨Tryz.f237.name, by decide, func237.trans (congrArg some (by kernel_rfl))⟩
  f26 := ⟨Tryz.f238.name, by decide, func238.trans (congrArg some (by kernel_rfl))⟩
  f27 := ⟨Tryz.f239.name, by decide, func239.trans (congrArg some (by kernel_rfl))⟩
  f28 := func159.trans (congrArg some (by kernel_rfl))
  f29 := func160.trans (congrArg some (by kernel_rfl))
  f46 := ⟨Tryz.f251.name, by decide, func251.trans (congrArg some (by kernel_rfl))⟩
  f47 := func199.trans (congrArg some (by kernel_rfl))
  f48 := func200.trans (congrArg some (by kernel_rfl))
  f49 := ⟨Tryz.f252.name, by decide, func252.trans (congrArg some (by kernel_rfl))⟩
  f50 := ⟨Tryz.f253.name, by decide, func253.trans (congrArg some (by kernel_rfl))⟩
  f57 := ⟨Tryz.f259.name, by decide, func259.trans (congrArg some (by kernel_rfl))⟩
  t0 := Tryz.underlying0
  a0 := Tryz.isAgg0
  z0 := Tryz.sizeOf0
  v0 := Tryz.zeroValue0
  t3 := Tryz.underlying3
  a3 := Tryz.isAgg3
  z3 := Tryz.sizeOf3
  v3 := Tryz.zeroValue3
  t4 := Tryz.underlying4
  a4 := Tryz.isAgg4
  z4 := Tryz.sizeOf4
  v4 := Tryz.zeroValue4
  t5 := Tryz.underlying5
  a5 := Tryz.isAgg5
  z5 := Tryz.sizeOf5
  v5 := Tryz.zeroValue5
  t9 := Tryz.underlying9
  a9 := Tryz.isAgg9
  z9 := Tryz.sizeOf9
  v9 := Tryz.zeroValue9
  t22 := Tryz.underlying43
  a22 := Tryz.isAgg43
  z22 := Tryz.sizeOf43
  v22 := Tryz.zeroValue43
  a24 := Tryz.isAgg9
  z24 := Tryz.sizeOf9
  t25 := Tryz.underlying106
  a25 := Tryz.isAgg106
  z25 := Tryz.sizeOf106
  v25 := Tryz.zeroValue106
  t39 := Tryz.underlying132
  a39 := Tryz.isAgg132
  z39 := Tryz.sizeOf132
  v39 := Tryz.zeroValue132
  t45 := Tryz.underlying157
  a45 := Tryz.isAgg157
  z45 := Tryz.sizeOf157
  v45 := Tryz.zeroValue157
  t46 := Tryz.underlying158
  a46 := Tryz.isAgg158
  z46 := Tryz.sizeOf158
  v46 := Tryz.zeroValue158
  t50 := Tryz.underlying163
  a50 := Tryz.isAgg163
  z50 := Tryz.sizeOf163
  v50 := Tryz.zeroValue163
  t53 := Tryz.underlying166
  a53 := Tryz.isAgg166
  z53 := Tryz.sizeOf166
  v53 := Tryz.zeroValue166
  t55 := Tryz.underlying168
  a55 := Tryz.isAgg168
  z55 := Tryz.sizeOf168
  v55 := Tryz.zeroValue168
  t66 := Tryz.underlying197
  a66 := Tryz.isAgg197
  z66 := Tryz.sizeOf197
  v66 := Tryz.zeroValue197
  t70 := Tryz.underlying201
  a70 := Tryz.isAgg201
  z70 := Tryz.sizeOf201
  v70 := Tryz.zeroValue201
  t76 := Tryz.underlying218
  a76 := Tryz.isAgg218
  z76 := Tryz.sizeOf218
  v76 := Tryz.zeroValue218
  t77 := Tryz.underlying219
  a77 := Tryz.isAgg219
  z77 := Tryz.sizeOf219
  v77 := Tryz.zeroValue219 }
def Tryz.layU_ren : Go.Shelf.Ren := ⟨fun | 6 => 162 | 15 => 114 | 14 => 205 | 28 => 159 | 29 => 160 | 20 => 232 | 21 => 233 | 22 => 234 | 23 => 235 | 24 => 236 | 25 => 237 | 26 => 238 | 27 => 239 | 46 => 251 | 47 => 199 | 48 => 200 | 49 => 252 | 50 => 253 | 57 => 259 | n => n, fun | 22 => 43 | 24 => 9 | 25 => 106 | 3 => 3 | 39 => 132 | 0 => 0 | 53 => 166 | 55 => 168 | 4 => 4 | 46 => 158 | 45 => 157 | 50 => 163 | 5 => 5 | 9 => 9 | 66 => 197 | 70 => 201 | 76 => 218 | 77 => 219 | n => n, fun | n => n⟩
theorem Tryz.layU : Go.Proofs.SlLaysF0.n6 prog Tryz.layU_ren := {
  mixed := by kernel_rfl
  f6 := ⟨Tryz.f162.name, by decide, func162.trans (congrArg some (by kernel_rfl))⟩
  f14 := ⟨Tryz.f205.name, by decide, func205.trans (congrArg some (by kernel_rfl))⟩
  f15 := func114.trans (congrArg some (by kernel_rfl))
  f20 := ⟨Tryz.f232.name, by decide, func232.trans (congrArg some (by kernel_rfl))⟩
  f21 := ⟨Tryz.f233.name, by decide, func233.trans (congrArg some (by kernel_rfl))⟩
  f22 := ⟨Tryz.f234.name, by decide, func234.trans (congrArg some (by kernel_rfl))⟩
  f23 := ⟨Tryz.f235.name, by decide, func235.trans (congrArg some (by kernel_rfl))⟩
  f24 := ⟨Tryz.f236.name, by decide, func236.trans (congrArg some (by kernel_rfl))⟩
  f25 := ⟨Tryz.f237.name, by decide, func237.trans (congrArg some (by kernel_rfl))⟩
  f26 := ⟨Tryz.f238.name, by decide, func238.trans (congrArg some (by kernel_rfl))⟩
  f27 := ⟨Tryz.f239.name, by decide, func239.trans (congrArg some (by kernel_rfl))⟩
  f28 := func159.trans (congrArg some (by kernel_rfl))
  f29 := func160.trans (congrArg some (by kernel_rfl))
  f46 := ⟨Tryz.f251.name, by decide, func251.trans (congrArg some (by kernel_rfl))⟩
  f47 := func199.trans (congrArg some (by kernel_rfl))
  f48 := func200.trans (congrArg some (by kernel_rfl))
  f49 := ⟨Tryz.f252.name, by decide, func252.trans (congrArg some (by kernel_rfl))⟩
  f50 := ⟨Tryz.f253.name, by decide, func253.trans (congrArg some (by kernel_rfl))⟩
  f57 := ⟨Tryz.f259.name, by decide, func259.trans (congrArg some (by kernel_rfl))⟩
  t0 := Tryz.underlying0
  a0 := Tryz.isAgg0
  z0 := Tryz.sizeOf0
  v0 := Tryz.zeroValue0
  t3 := Tryz.underlying3
  a3 := Tryz.isAgg3
  z3 := Tryz.sizeOf3
  v3 := Tryz.zeroValue3
  t4 := Tryz.underlying4
  a4 := Tryz.isAgg4
  z4 := Tryz.sizeOf4
  v4 := Tryz.zeroValue4
  t5 := Tryz.underlying5
  a5 := Tryz.isAgg5
  z5 := Tryz.sizeOf5
  v5 := Tryz.zeroValue5
  t9 := Tryz.underlying9
  a9 := Tryz.isAgg9
  z9 := Tryz.sizeOf9
  v9 := Tryz.zeroValue9
  t22 := Tryz.underlying43
  a22 := Tryz.isAgg43
  z22 := Tryz.sizeOf43
  v22 := Tryz.zeroValue43
  t25 := Tryz.underlying106
  a25 := Tryz.isAgg106
  z25 := Tryz.sizeOf106
  v25 := Tryz.zeroValue106
  t39 := Tryz.underlying132
  a39 := Tryz.isAgg132
  z39 := Tryz.sizeOf132
  v39 := Tryz.zeroValue132
  t45 := Tryz.underlying157
  a45 := Tryz.isAgg157
  z45 := Tryz.sizeOf157
  v45 := Tryz.zeroValue157
  t46 := Tryz.underlying158
  a46 := Tryz.isAgg158
  z46 := Tryz.sizeOf158
  v46 := Tryz.zeroValue158
  t50 := Tryz.underlying163
  a50 := Tryz.isAgg163
  z50 := Tryz.sizeOf163
  v50 := Tryz.zeroValue163
  t53 := Tryz.underlying166
  a53 := Tryz.isAgg166
  z53 := Tryz.sizeOf166
  v53 := Tryz.zeroValue166
  t55 := Tryz.underlying168
  a55 := Tryz.isAgg168
  z55 := Tryz.sizeOf168
  v55 := Tryz.zeroValue168
  t66 := Tryz.underlying197
  a66 := Tryz.isAgg197
  z66 := Tryz.sizeOf197
  v66 := Tryz.zeroValue197
  t70 := Tryz.underlying201
  a70 := Tryz.isAgg201
  z70 := Tryz.sizeOf201
  v70 := Tryz.zeroValue201
  t76 := Tryz.underlying218
  a76 := Tryz.isAgg218
  z76 := Tryz.sizeOf218
  v76 := Tryz.zeroValue218
  t77 := Tryz.underlying219
  a77 := Tryz.isAgg219
  z77 := Tryz.sizeOf219
  v77 := Tryz.zeroValue219 }
def Tryz.layC_ren : Go.Shelf.Ren := ⟨fun | 44 => 144 | n => n, fun | 25 => 43 | 26 => 9 | 3 => 3 | 4 => 4 | 0 => 0 | n => n, fun | n => n⟩
theorem Tryz.layC : Go.Proofs.SlLaysN.n44 prog Tryz.layC_ren := {
  mixed := by kernel_rfl
  f44 := ⟨Tryz.f144.name, by decide, func144.trans (congrArg some (by kernel_rfl))⟩
  t0 := Tryz.underlying0
  a0 := Tryz.isAgg0
  z0 := Tryz.sizeOf0
  v0 := Tryz.zeroValue0
  t3 := Tryz.underlying3
  a3 := Tryz.isAgg3
  z3 := Tryz.sizeOf3
  v3 := Tryz.zeroValue3
  t4 := Tryz.underlying4
  a4 := Tryz.isAgg4
  z4 := Tryz.sizeOf4
  v4 := Tryz.zeroValue4
  t25 := Tryz.underlying43
  a25 := Tryz.isAgg43
  z25 := Tryz.sizeOf43
  v25 := Tryz.zeroValue43
  t26 := Tryz.underlying9
  a26 := Tryz.isAgg9
  z26 := Tryz.sizeOf9
  v26 := Tryz.zeroValue9
  i26 := by kernel_rfl }
def Tryz.keysA_ren : Go.Shelf.Ren := ⟨fun | 7 => 117 | 10 => 163 | n => n, fun | 23 => 80 | 26 => 9 | 3 => 9 | 28 => 136 | 0 => 0 | 27 => 135 | 33 => 89 | 4 => 4 | n => n, fun | n => n⟩
theorem Tryz.keysA : Go.Proofs.SlLaysZ.n7 prog Tryz.keysA_ren := {
  mixed := by kernel_rfl
  f7 := ⟨Tryz.f117.name, by decide, func117.trans (congrArg some (by kernel_rfl))⟩
  f10 := ⟨Tryz.f163.name, by decide, func163.trans (congrArg some (by kernel_rfl))⟩
  t0 := Tryz.underlying0
  a0 := Tryz.isAgg0
  z0 := Tryz.sizeOf0
  v0 := Tryz.zeroValue0
  t4 := Tryz.underlying4
  a4 := Tryz.isAgg4
  z4 := Tryz.sizeOf4
  v4 := Tryz.zeroValue4
  t23 := Tryz.underlying80
  a23 := Tryz.isAgg80
  z23 := Tryz.sizeOf80
  v23 := Tryz.zeroValue80
  t26 := Tryz.underlying9
  a26 := Tryz.isAgg9
  z26 := Tryz.sizeOf9
  v26 := Tryz.zeroValue9
  t27 := Tryz.underlying135
  a27 := Tryz.isAgg135
  z27 := Tryz.sizeOf135
  v27 := Tryz.zeroValue135
  t28 := Tryz.underlying136
  a28 := Tryz.isAgg136
  z28 := Tryz.sizeOf136
  v28 := Tryz.zeroValue136
  t33 := Tryz.underlying89
  a33 := Tryz.isAgg89
  z33 := Tryz.sizeOf89
  v33 := Tryz.zeroValue89 }
def Tryz.coll_ren : Go.Shelf.Ren := ⟨fun | 8 => 161 | 11 => 204 | n => n, fun | 26 => 9 | 28 => 136 | 24 => 43 | 0 => 0 | 33 => 89 | 4 => 4 | n => n, fun | n => n⟩
theorem Tryz.coll : Go.Proofs.SlLaysZ.n8 prog Tryz.coll_ren := {
  mixed := by kernel_rfl
  f8 := ⟨Tryz.f161.name, by decide, func161.trans (congrArg some (by kernel_rfl))⟩
  f11 := ⟨Tryz.f204.name, by decide, func204.trans (congrArg some (by kernel_rfl))⟩
  t0 := Tryz.underlying0
  a0 := Tryz.isAgg0
  z0 := Tryz.sizeOf0
  v0 := Tryz.zeroValue0
  t24 := Tryz.underlying43
  a24 := Tryz.isAgg43
  z24 := Tryz.sizeOf43
  v24 := Tryz.zeroValue43
  t26 := Tryz.underlying9
  a26 := Tryz.isAgg9
  z26 := Tryz.sizeOf9
  v26 := Tryz.zeroValue9
  t28 := Tryz.underlying136
  a28 := Tryz.isAgg136
  z28 := Tryz.sizeOf136
  v28 := Tryz.zeroValue136
  i26 := by kernel_rfl }
end Go.Proofs
namespace Go.Proofs.Tz
open Go.Vw Go.Sort Go.RowKit
theorem a9n (w : World) (L : Nat → Nat → Prop) : ∀ (l : List Str), A4 w L (l.map .str) (l.map fun s => [encStr s])
  | [] => by simp [A4]
  | s :: l => by
    simp only [List.map_cons, A4]; exact ⟨_, _, rfl, by simp [Rep, encStr], a9n w L l⟩
theorem a2U : ∀ (l : List Str), (l.map fun s => [encStr s]).flatten = l.map encStr
  | [] => rfl
  | s :: l => by simp [a2U l]
theorem a6M {w : World} {L : Nat → Nat → Prop} : ∀ {l : List Str} {css : List (List Value)}, A4 w L (l.map .str) css → css = l.map fun s => [encStr s]
  | [], css, h => by simpa [A4] using h
  | s :: l, css, h => by
    simp only [List.map_cons, A4] at h; obtain ⟨c, cs, rfl, h1, h2⟩ := h; rw [a6M h2]; simp only [Rep] at h1; subst h1; rfl
def I4 (l : List Str) : List Str := l.mergeSort fun x y => decide (x ≤ y)
theorem b0u {w : World} {g : Nat} {l : List Str} (h : Holds id w g 0 (l.map encStr).toArray) : Holds encStr w g 0 l.toArray := by
  intro j hj; have hj' : j < l.length := (by simpa using hj); have := h j (by simpa using hj'); simpa [hj'] using this
theorem b1F (l : List Str) (hl : l.length < 1000000) : a6c prog 62 9 (l.map .str) [] ((I4 l).map .str) := by
  refine ⟨enters_of func62 (by kernel_rfl) rfl, fun w L og v vals hlok hgl hown hrc => ?_⟩; simp only [RCs] at hrc; subst hrc; obtain ⟨css0, sz0, g1, g2, g3, g4, g5⟩ := id hown; rcases g4.2 with ⟨hv, hn⟩ | ⟨g, cap, cur, hv, _⟩
  · have hl0 : l = [] := (by simpa using hn); subst hl0; subst hv; have h := AnyM.slices_Sort_string_none Tryz.layS none 0 w
    change Calls prog 62 _ _ _ at h
    refine h.mono ?_; rintro e w' ⟨rfl, rfl⟩; exact ⟨L, rfl, E8.refl _ _, hlok, fun _ _ _ _ => Iff.rfl, by simpa [I4] using hown⟩
  · subst hv; obtain ⟨css, h1, h2, h3, h4, h5⟩ := hown.holds; have hcss := a6M h1; subst hcss; rw [a2U] at h3; have h := AnyM.slices_Sort_string Tryz.layS g 0 cap l w (b0u h3) h4 (by omega)
    change Calls prog 62 _ _ _ at h
    rw [List.length_map]; refine h.mono ?_; rintro e w' ⟨rfl, n, os, rfl⟩; rw [a5X encStr]; have hlen : (I4 l).length = l.length := (by simp [I4]); have hog := (hown.blk (g := g) rfl).1; have hs := hown.sorted hlok (a9n w L (I4 l)) (by simp [hlen]) (fun sz hsz c hc => by
      obtain ⟨s, _, rfl⟩ := List.mem_map.1 hc; rw [show (prog.info? (ety 9)).map (·.size) = some 1 from Tryz.sz_9] at hsz; simpa using hsz) n os (F := ((I4 l).map encStr).toArray) (by rw [a2U])
    rw [List.length_map] at hs; have e : (List.map encStr (I4 l)).toArray = Array.map encStr (l.mergeSort fun x y => decide (x ≤ y)).toArray := by simp [I4]
    rw [K8, e] at hs; refine ⟨L, rfl, ?_, hs.2.2, fun _ _ _ _ => Iff.rfl, hs.1⟩; rw [hog]; exact hs.2.1
def a2u (x : Str × Sl) : List Value := [encStr x.1, .slice x.2.1 x.2.2.1 x.2.2.2]
theorem b3H (w : World) (L : Nat → Nat → Prop) : ∀ (l : List (Str × Sl)), A4 w L (l.map rw2) (l.map a2u)
  | [] => by simp [A4]
  | s :: l => by
    simp only [List.map_cons, A4]; refine ⟨_, _, rfl, ?_, b3H w L l⟩; simp only [rw2, Rep, A4]; exact ⟨[[encStr s.1], [.slice s.2.1 s.2.2.1 s.2.2.2]], ⟨_, _, rfl, by simp [encStr], _, _, rfl, ⟨rfl, by simp [Value.oneCell'], rfl⟩, rfl⟩, rfl⟩
theorem b2W {w : World} {L : Nat → Nat → Prop} : ∀ {l : List (Str × Sl)} {css : List (List Value)}, A4 w L (l.map rw2) css → css = l.map a2u
  | [], css, h => by simpa [A4] using h
  | s :: l, css, h => by
    simp only [List.map_cons, A4] at h; obtain ⟨c, cs, rfl, h1, h2⟩ := h; simp only [rw2, Rep, A4] at h1; obtain ⟨css, ⟨_, _, rfl, rfl, _, _, rfl, ⟨rfl, h3, h4⟩, rfl⟩, rfl⟩ := h1; rw [b2W h2]; rfl
def a3L (x y : Str × Sl) : Int := if Op.bytesLess x.1 y.1 then -1 else 1
end Go.Proofs.Tz
namespace Go.Proofs.Tz
open Go.Vw Go.Sort Go.RowKit Go.Lib
theorem ltR (x y : Str × Sl) : ltOf a3L x y = Op.bytesLess x.1 y.1 := by
  unfold ltOf a3L; cases Op.bytesLess x.1 y.1 <;> simp
theorem c5G : SWO (ltOf a3L) where
  irrefl x := by rw [ltR, bytesLess_eq]; simp
  trans x y z h1 h2 := by
    rw [ltR, bytesLess_eq] at *; simp only [decide_eq_true_eq] at *; exact List.lt_trans h1 h2
  ntrans x y z h1 h2 := by
    rw [ltR, bytesLess_eq] at *; simp only [decide_eq_false_iff_not, List.not_lt] at *; exact List.le_trans h2 h1
theorem b8C (a b : ByteArray) (u v : Value) (W : World) : Calls prog 146 #[.agg #[.string a, u], .agg #[.string b, v]] W fun e w' => e = .returned (.int .i64 (if Op.bytesLess a.toList b.toList then -1 else 1)) ∧ ∃ q os', w' = grow (W.drewN q) os' := by
  cases hb : Op.bytesLess a.toList b.toList
  · go_enter func146, Tryz.ntmps146
    go_wp2
    go_ret
    exact ⟨rfl, 0, _, by rw [alloc_eq_grow, alloc_eq_grow, grow_grow]; rfl⟩
  · go_enter func146, Tryz.ntmps146
    go_wp2
    go_ret
    exact ⟨rfl, 0, _, by rw [alloc_eq_grow, alloc_eq_grow, grow_grow]; rfl⟩
instance : Inhabited (Str × Sl) := ⟨([], none, 0, 0)⟩
def Y5 (l : List (Str × Sl)) : List (Str × Sl) := (pdq (ltOf a3L) l.toArray 0 l.length (Lib.bitLen l.length) true true).toList
theorem a6D (l : List (Str × Sl)) : (Y5 l).Perm l ∧ ∀ i j (hij : i < j) (hj : j < (Y5 l).length), Op.bytesLess (Y5 l)[j].1 ((Y5 l)[i]'(by omega)).1 = false := by
  have h := pdq_sorts (ltOf a3L) c5G l.toArray 0 l.length (Lib.bitLen l.length) true true (Nat.zero_le _) (by simp) (Or.inl rfl); obtain ⟨⟨h1, h2, h3⟩, h4⟩ := h; have hs : (Y5 l).length = l.length := (by simpa [Y5] using h1); refine ⟨?_, fun i j hij hj => ?_⟩
  · have e1 : (pdq (ltOf a3L) l.toArray 0 l.length (Lib.bitLen l.length) true true).extract 0 l.length = pdq (ltOf a3L) l.toArray 0 l.length (Lib.bitLen l.length) true true := by
      apply Array.extract_eq_self_of_le; rw [h1]; simp
    rw [e1] at h3; simpa [Y5] using h3
  · have := h4 i j (Nat.zero_le _) hij (by omega); rw [ltR] at this; have hj' : j < (pdq (ltOf a3L) l.toArray 0 l.length (Lib.bitLen l.length) true true).size := (by simpa [Y5] using hj); rw [getElem!_pos _ j hj', getElem!_pos _ i (by omega)] at this; simpa [Y5] using this
theorem b4f {α : Type} [Inhabited α] (enc : α → List Value) (k : Nat) (l : List α) (hk : ∀ x, (enc x).length = k) (hp : 0 < k) : flatK enc k l.toArray = (l.map enc).flatten.toArray := by
  have hfl : (l.map enc).flatten.length = l.length * k := by rw [Q5 (fun c hc => by obtain ⟨x, _, rfl⟩ := List.mem_map.1 hc; exact hk x), List.length_map]
  apply Array.ext
  · simp [flatK, hfl]
  · intro t h1 h2; have ht : t < l.length * k := (by simpa [flatK] using h1); have hq : t / k < l.length := Nat.div_lt_of_lt_mul (by rw [Nat.mul_comm]; exact ht); have hr : t % k < (enc l[t / k]).length := by rw [hk]; exact Nat.mod_lt _ hp
    have := a1A (css := l.map enc) (sz := k) (fun c hc => by obtain ⟨x, _, rfl⟩ := List.mem_map.1 hc; exact hk x) (i := t / k) (c := enc l[t / k]) (by simp [hq]) (t % k) ((enc l[t / k])[t % k]) (List.getElem?_eq_getElem hr); rw [show t / k * k + t % k = t by rw [Nat.mul_comm]; exact Nat.div_add_mod t k] at this; have e2 := (List.getElem?_eq_some_iff.1 this).2; simp only [flatK, List.size_toArray, Array.getElem_map, Array.getElem_range, List.getElem_toArray]; rw [e2, show (l.toArray[t / k]! : α) = l[t / k] by rw [getElem!_pos l.toArray _ (by simpa using hq)]; simp]; exact getElem!_pos (enc l[t / k]) (t % k) hr
theorem c0M (l : List (Str × Sl)) (hl : l.length < 1000000) : a6c prog 145 72 (l.map rw2) [.d (.clo 146 [])] ((Y5 l).map rw2) := by
  refine ⟨enters_of func145 (by kernel_rfl) rfl, fun w L og v vals hlok hgl hown hrc => ?_⟩; simp only [RCs] at hrc; obtain ⟨cv, us, rfl, hc1, rfl⟩ := hrc; simp only [RC] at hc1; obtain ⟨ccs, hcc, rfl⟩ := a0K hc1; simp only [A4] at hcc; subst hcc; simp only [List.flatten_nil]; obtain ⟨css0, sz0, g1, g2, g3, g4, g5⟩ := id hown; rcases g4.2 with ⟨hv, hn⟩ | ⟨g, cap, cur, hv, _⟩
  · have hl0 : l = [] := (by simpa using hn); subst hl0; subst hv; have h := AnyF.slices_SortFunc_none Tryz.layF none 0 (.func (.func 146) #[] #[]) w
    change Calls prog 145 _ _ _ at h
    refine h.mono ?_; rintro e w' ⟨rfl, rfl⟩; have hnil : Y5 [] = [] := List.Perm.eq_nil (a6D []).1; exact ⟨L, rfl, E8.refl _ _, hlok, fun _ _ _ _ => Iff.rfl, by rw [hnil]; exact hown⟩
  · subst hv; obtain ⟨css, h1, h2, h3, h4, h5⟩ := hown.holds; have hcss := b2W h1; subst hcss; have hK : HoldsK a2u 2 w g 0 l.toArray := by
      unfold HoldsK; rw [b4f a2u 2 l (fun _ => rfl) (by omega)]; exact h3
    have eg : ∀ args w, (callFunc 146 args).run prog w = .ok (.enter 146 args) w := enters_of func146 (by kernel_rfl) rfl; have hcmp : CmpLays prog 146 #[] a2u 2 a3L g 0 l.toArray.size w := fun m os dk _ x y => by
      have := b8C ⟨x.1.toArray⟩ ⟨y.1.toArray⟩ (.slice x.2.1 x.2.2.1 x.2.2.2) (.slice y.2.1 y.2.2.1 y.2.2.2) (sortWorldK a2u 2 w g 0 m dk os); simp only [Lib.toList_data] at this; exact this
    have h := AnyQ.slices_SortFunc_eq Tryz.layF 2 Tryz.isAgg72 Tryz.sizeOf72 a2u (fun _ => rfl) (fun x v hv => ?_) a3L c5G 146 #[] g 0 cap l.toArray w eg hcmp hK h4 (by simp; omega)
    · change Calls prog 145 _ _ _ at h
      simp only [List.size_toArray] at h; rw [List.length_map]; refine h.mono ?_; rintro e w' ⟨rfl, n, os, rfl⟩; have hp := (a6D l).1; have hlen : (Y5 l).length = l.length := hp.length_eq; have hog := (hown.blk (g := g) rfl).1; have hs := hown.sorted hlok (b3H w L (Y5 l)) (by simp [hlen]) (fun sz hsz c hc => by
        obtain ⟨s, _, rfl⟩ := List.mem_map.1 hc; rw [show (prog.info? (ety 72)).map (·.size) = some 2 from Tryz.sz_72] at hsz; simpa [a2u] using hsz) n os (F := ((Y5 l).map a2u).flatten.toArray) rfl
      rw [List.length_map] at hs; have e : K8 w g n ((Y5 l).map a2u).flatten.toArray os = sortWorldK a2u 2 w g 0 n (pdq (ltOf a3L) l.toArray 0 l.length (Lib.bitLen l.length) true true) os := by
        unfold K8 sortWorldK putRowK; rw [← b4f a2u 2 (Y5 l) (fun _ => rfl) (by omega)]; rfl
      rw [e] at hs; refine ⟨L, rfl, ?_, hs.2.2, fun _ _ _ _ => Iff.rfl, hs.1⟩; rw [hog]; exact hs.2.1
    · simp only [a2u, List.mem_cons, List.not_mem_nil, or_false] at hv; rcases hv with rfl | rfl <;> rfl
theorem c0T {w : World} {L : Nat → Nat → Prop} {og : Option Nat} {g cap : Nat} {l : List Str} (hown : E3 prog w L og true 9 (l.map .str) (.slice (some ⟨g, 0, none⟩) l.length cap)) (hlok : ∀ b q, L b q → b < w.heap.size) (l' : List Str) (hl : l'.length = l.length) (q : Nat) :
    E3 prog (putRow encStr (Sort.ahead w q) g 0 l'.toArray) L og true 9 (l'.map .str) (.slice (some ⟨g, 0, none⟩) l.length cap) ∧ E8 w (putRow encStr (Sort.ahead w q) g 0 l'.toArray) (E9 (some g)) ∧ ∀ b p, L b p → b < (putRow encStr (Sort.ahead w q) g 0 l'.toArray).heap.size := by
  have hown' : E3 prog w L og true 9 (l.map .str) (.slice (some ⟨g, 0, none⟩) (l.map D.str).length cap) := by rw [List.length_map]; exact hown
  have hs := hown'.sorted hlok (a9n w L l') (by simp [hl]) (fun sz hsz c hc => by
    obtain ⟨s, _, rfl⟩ := List.mem_map.1 hc; rw [show (prog.info? (ety 9)).map (·.size) = some 1 from Tryz.sz_9] at hsz; simpa using hsz) q #[] (F := (l'.map encStr).toArray) (by rw [a2U])
  rw [List.length_map] at hs; have e : K8 w g q (l'.map encStr).toArray #[] = putRow encStr (Sort.ahead w q) g 0 l'.toArray := by
    unfold K8; rw [grow_empty, a5X encStr]; simp
  rw [e] at hs; exact hs
theorem c1J {w : World} {L : Nat → Nat → Prop} {og : Option Nat} {l : List Str} {v : Value} (h : E3 prog w L og true 9 (l.map .str) v) :
    (v = .slice none 0 0 ∧ l = []) ∨ ∃ g cap, v = .slice (some ⟨g, 0, none⟩) l.length cap ∧ l.length ≤ cap ∧ cap ≤ maxLen ∧ Holds encStr w g 0 l.toArray ∧ g < w.heap.size ∧ og = some g := by
  obtain ⟨css0, sz0, g1, g2, g3, g4, g5⟩ := id h; rcases g4.2 with ⟨hv, hn⟩ | ⟨g, cap, cur, hv, hh, hnc, hcm, _⟩
  · exact .inl ⟨hv, by simpa using hn⟩
  · subst hv; obtain ⟨css, h1, h2, h3, h4, h5⟩ := h.holds; have hcss := a6M h1; subst hcss; rw [a2U] at h3; exact .inr ⟨g, cap, by rw [List.length_map], by simpa using hnc, hcm, b0u h3, h4, (h.blk (g := g) rfl).1⟩
theorem b7m (l : List Str) (hl : l.length < 1000000) : Ctr prog 144 [.own true 9 (l.map .str)] (.own true 9 ((compact l).map .str)) := by
  refine ⟨enters_of func144 (by kernel_rfl) rfl, fun w L og vals hlok hgl hog hrc => ?_⟩; simp only [RCs] at hrc; obtain ⟨v, us, rfl, hown, rfl⟩ := hrc; simp only [RC] at hown; rcases c1J hown with ⟨rfl, rfl⟩ | ⟨g, cap, rfl, hcap, hcm, hH, hg, hgo⟩
  · have h := AnyG.slices_Compact_string_empty Tryz.layC none 0 w
    change Calls prog 144 _ _ _ at h
    refine h.mono ?_; rintro e w' ⟨rfl, rfl⟩; exact ⟨_, L, og, rfl, E8.refl _ _, hlok, fun _ _ _ _ => Iff.rfl, fun g hg => ⟨(hog g hg).1, .inr hg⟩, hown⟩
  · have h := AnyG.slices_Compact_string Tryz.layC g 0 cap l w hH (by omega) hcap
    change Calls prog 144 _ _ _ at h
    refine h.mono ?_; rintro e w' ⟨rfl, q, rfl⟩; have hle := compact_length_le l; have hp := c0T hown hlok (compact l ++ List.replicate (l.length - (compact l).length) []) (by simp; omega) q; refine ⟨_, L, og, rfl, by rw [hgo]; exact hp.2.1, hp.2.2, fun _ _ _ _ => Iff.rfl, fun b hb => ?_, ?_⟩
    · refine ⟨Nat.lt_of_lt_of_le (hog b hb).1 hp.2.1.size, .inr hb⟩
    · simp only [RC]; have := hp.1.cut (hi := (compact l).length) (m := cap) (by simp) (by omega) (Nat.le_refl _); rw [← List.map_take, List.take_left] at this; exact this
end Go.Proofs.Tz
namespace Go.Proofs.Tz
open Go.Vw
theorem b8j (x : Str × Sl) (n : Str) : Ctr prog 141 [.d (rw2 x), .d (.ref (.str n))] (.d (.bool (decide (x.1 = n)))) := by
  refine fv (fun _ => false) func141 (by kernel_rfl) rfl rfl rfl rfl rfl ?_; simp -implicitDefEqProofs [rw2]
theorem b9f (x : Str × Sl) : Ctr prog 143 [.d (rw2 x)] (.d (.bool (decide (x.2.2.1 = 0)))) := by
  refine fv (fun _ => false) func143 (by kernel_rfl) rfl rfl rfl rfl rfl ?_; simp -implicitDefEqProofs [rw2]
abbrev Row := Str × Sl × List Str
def pr (r : Row) : Str × Sl := (r.1, r.2.1)
def nv (r : Row) : Att := (r.1, r.2.2)
def hd (r : Row) : Value := .slice r.2.1.1 r.2.1.2.1 r.2.1.2.2
def a0X (r : Row) : D := rw2 (pr r)
def hnd (r : Row) : AV := .hs (hd r) 9 (r.2.2.map .str)
theorem a9s {α β : Type} (f : α → β) (p : β → Bool) : ∀ (l : List α) (k : Nat), V9 p k (l.map f) = V9 (fun x => p (f x)) k l
  | [], _ => rfl
  | x :: l, k => by simp only [List.map_cons, V9, a9s f p l (k + 1)]
def a1i (acc : List Att) (a : Att) : List Att :=
  if V9 (fun x : Att => decide (x.1 = D6 a.1)) 0 acc = -1 then acc ++ [(D6 a.1, a.2)] else acc.modify (V9 (fun x : Att => decide (x.1 = D6 a.1)) 0 acc).toNat fun x => (x.1, x.2 ++ a.2)
def grp (l : List Att) : List Att := l.foldl a1i []
theorem c2g {l : List Att} {k : Nat} (h : k < l.length) : grp (l.take (k + 1)) = a1i (grp (l.take k)) l[k] := by
  rw [J0 h]; simp only [grp, List.foldl_append, List.foldl_cons, List.foldl_nil]
theorem b6w (l : List Att) : (grp l).length ≤ l.length := by
  have key : ∀ (l acc : List Att), (l.foldl a1i acc).length ≤ acc.length + l.length := by
    intro l
    induction l with
    | nil => intro acc; simp
    | cons a l ih =>
      intro acc; have := ih (a1i acc a); have h2 : (a1i acc a).length ≤ acc.length + 1 := by
        unfold a1i; split <;> simp
      simp only [List.foldl_cons, List.length_cons]; omega
  simpa [grp] using key l []
theorem b8T (a b : List Att) : M9 (a ++ b) = M9 a + M9 b := by simp [M9]
theorem a7m (f : Att → Att) (n : Nat) : ∀ (acc : List Att) (i : Nat), (∀ x, (f x).2.length = x.2.length + n) → i < acc.length → M9 (acc.modify i f) = M9 acc + n
  | [], i, _, h => by simp at h
  | x :: acc, 0, hf, _ => by simp [M9, List.modify_cons, hf]; omega
  | x :: acc, i + 1, hf, h => by
    have := a7m f n acc i hf (by simpa using h); simp only [M9, List.modify_succ_cons, List.map_cons, List.sum_cons] at this ⊢; omega
theorem b8i (acc : List Att) (a : Att) : M9 (a1i acc a) = M9 acc + a.2.length := by
  unfold a1i; split
  · rw [b8T]; simp [M9]
  · rename_i h
    obtain ⟨i, h1, h2, _⟩ := a5K _ acc 0 h; rw [h1]; exact a7m _ _ _ _ (fun x => by simp) (by simpa using h2)
theorem b2H (l : List Att) : M9 (grp l) = M9 l := by
  have key : ∀ (l acc : List Att), M9 (l.foldl a1i acc) = M9 acc + M9 l := by
    intro l
    induction l with
    | nil => intro acc; simp [M9]
    | cons a l ih =>
      intro acc; rw [List.foldl_cons, ih, b8i]; simp only [M9, List.map_cons, List.sum_cons]; omega
  have := key l []; simpa [grp, M9] using this
theorem b2e {l : List Att} {x : Att} (h : x ∈ l) : x.2.length ≤ M9 l := by
  induction l with
  | nil => simp at h
  | cons y l ih =>
    simp only [M9, List.map_cons, List.sum_cons] at ih ⊢; rcases List.mem_cons.1 h with rfl | h
    · omega
    · have := ih h; omega
theorem a5S {α : Type} (f : α → α) : ∀ (l : List α) (i : Nat) (x : α), l[i]? = some x → l.modify i f = l.set i (f x)
  | [], i, x, h => by simp at h
  | y :: l, 0, x, h => by
    simp only [List.getElem?_cons_zero, Option.some.injEq] at h; subst h; rfl
  | y :: l, i + 1, x, h => by
    simp only [List.getElem?_cons_succ] at h; simp [List.modify_succ_cons, a5S f l i x h]
theorem M3 (i d : Nat) (h : d < 1000000) : (1000000 + i = d) = False := by simp; omega
theorem K3 (i d : Nat) (h : d < 1000000) : (d = 1000000 + i) = False := by simp; omega
theorem c5D : a0x prog true 72 = some [.str [], .raw (.slice none 0 0)] := by kernel_rfl
def c2R (rs : List Row) : Prop := ∀ r ∈ rs, r.2.1.2.1 = r.2.2.length
def Y4 : Nat → Bool := fun i => i == 3 || i == 44 || i == 1000027 || i == 2000020 || i == 3000055 || i == 4000063 || i == 3000068
abbrev a6K := Row × Nat
def q1 (q : a6K) : D := a0X q.1
def c8f (qs : List a6K) (τ : St) : Prop := (qs.map (·.2)).Nodup ∧ ∀ q ∈ qs, τ (1000000 + q.2) = hnd q.1
def a8r (a : Att) : Att := (a.1, Go.Lib.compact (I4 a.2))
def a9M (a : Att) : Bool := !decide (a.2 = [])
def c4V (m : List (Str × Sl)) : Prop := ∀ i j (_ : i < j) (hj : j < m.length), Op.bytesLess m[j].1 (m[i]'(by omega)).1 = false
theorem b8U {α β : Type} (f : α → β) {m m' : List β} (h : m.Perm m') : ∀ l : List α, l.map f = m' → ∃ l' : List α, l'.Perm l ∧ l'.map f = m := by
  induction h with
  | nil => intro l hl; exact ⟨l, .refl _, hl⟩
  | cons x p ih =>
    intro l hl; cases l with
    | nil => simp at hl
    | cons a t =>
      simp only [List.map_cons, List.cons.injEq] at hl; obtain ⟨t', h1, h2⟩ := ih t hl.2; exact ⟨a :: t', h1.cons a, by simp [hl.1, h2]⟩
  | swap x y l0 =>
    intro l hl
    match l, hl with
    | a :: b :: t, hl =>
      simp only [List.map_cons, List.cons.injEq] at hl; exact ⟨b :: a :: t, .swap _ _ _, by simp [hl.1, hl.2.1, hl.2.2]⟩
  | trans h1 h2 ih1 ih2 =>
    intro l hl; obtain ⟨l2, p2, e2⟩ := ih2 l hl; obtain ⟨l1, p1, e1⟩ := ih1 l2 e2; exact ⟨l1, p1.trans p2, e1⟩
theorem b6F {rs : List Row} {q : a6K} (h : q ∈ rs.zipIdx) : ∃ hi : q.2 < rs.length, rs[q.2] = q.1 := by
  obtain ⟨r, i⟩ := q; have := List.mem_zipIdx_iff_getElem?.1 h; exact ⟨(List.getElem?_eq_some_iff.1 this).1, (List.getElem?_eq_some_iff.1 this).2⟩
theorem b8g (l : List Att) (hl : b6H l) : G8 prog 100 [.d (a5W l)] [] (fun r hs => ∃ rs : List Row, r = .own true 72 (rs.map a0X) ∧ hs = rs.map hnd ∧ (rs.map nv).Perm (((grp l).filter a9M).map a8r) ∧ ∀ i j (_ : i < j) (hj : j < rs.length), Op.bytesLess rs[j].1 (rs[i]'(by omega)).1 = false) := by
  refine a1l Y4 (by kernel_rfl) func100 (by kernel_rfl) rfl rfl (nbl rfl) (by kernel_rfl) rfl ?_; obtain ⟨⟨hl1, hl2⟩, hl3⟩ := hl; simp -implicitDefEqProofs [Y4, A5, a5W]; refine H2 l.length (fun k τ => τ 9 = .d (.sl (l.map att)) ∧ τ 10 = .d (.int .i64 l.length) ∧ τ 11 = .d (.int .i64 k) ∧ ∃ rs : List Row, τ 3 = .own true 72 (rs.map a0X) ∧ (∀ i (h : i < rs.length), τ (1000000 + i) = hnd rs[i]) ∧ (∀ i, rs.length ≤ i → τ (1000000 + i) = .undef) ∧ rs.map nv = grp (l.take k) ∧ c2R rs) ?_ ?_
  · refine ⟨by simp, by simp, by simp, [], by simp, by simp, fun i _ => ?_, by simp [grp], by simp [c2R]⟩; simp [A5, M3]
  rintro k τ hk ⟨h9, h10, h11, rs, h3, hH, hU, hg, hlen⟩; by_cases hlt : k < l.length
  · simp -implicitDefEqProofs [Y4, h9, h10, h11, h3, hlt, att, B6]; refine A1 (a2l _ (hl2 _ (gmm hlt)).1) ?_; simp -implicitDefEqProofs [Y4, h9, h10, h11, h3, hlt, att, B6]; have hrk : rs.length ≤ k := by
      have := b6w (l.take k); rw [← hg] at this; simpa [Nat.min_eq_left (Nat.le_of_lt hlt)] using this
    have htot := b7a l k hlt; rw [← b2H (l.take k), ← hg] at htot; have hmr : rs.map a0X = (rs.map pr).map rw2 := (by simp [a0X]); rw [hmr]; refine c2U (b2c 141 [.ref (.str (D6 l[k].1))] rfl (fun x => decide (x.1 = D6 l[k].1)) (rs.map pr) (by simp; omega) (fun a _ => b8j a _)) rfl ?_; rw [← hmr]; have hidx : V9 (fun x : Str × Sl => decide (x.1 = D6 l[k].1)) 0 (rs.map pr) = V9 (fun x : Att => decide (x.1 = D6 l[k].1)) 0 (grp (l.take k)) := by
      rw [← hg, a9s, a9s]; rfl
    rw [hidx]; have hnew := c2g (l := l) hlt; by_cases hn : V9 (fun x : Att => decide (x.1 = D6 l[k].1)) 0 (grp (l.take k)) = -1
    · simp -implicitDefEqProofs [Y4, h9, h10, h11, h3, hlt, att, B6, hn, c5D]; refine ⟨by omega, by omega, c6B (1000000 + rs.length) (by simp [M3, hU]) (by simp) (by simp; omega) (by simp; omega) (fun A c => ?_)⟩; simp -implicitDefEqProofs [Y4, h9, h10, h11, h3, hlt, att, B6, hn, c5D, M3, K3]; refine ⟨by omega, D7 hlt ⟨by simp [h9, M3, K3], by simp [h10, M3, K3], by simp [M3, K3], rs ++ [(D6 l[k].1, (A, l[k].2.length, c), l[k].2)], ?_, fun i hi => ?_, fun i hi => ?_, ?_, ?_⟩⟩
      · simp [M3, K3, a0X, rw2, pr, List.set_append]
      · simp only [List.length_append, List.length_cons, List.length_nil] at hi; by_cases hi2 : i < rs.length
        · have hne : ¬ (i = rs.length) := (by omega); simp [M3, K3, hH i hi2, hnd, hne, List.getElem_append_left hi2]
        · have hie : i = rs.length := (by omega); subst hie; simp [M3, K3, hnd, hd]
      · simp only [List.length_append, List.length_cons, List.length_nil] at hi; have hne : ¬ (i = rs.length) := (by omega); simp [M3, K3, hU i (by omega), hne]
      · rw [hnew, a1i, if_pos hn, List.map_append, hg]; rfl
      · intro r hr; rcases List.mem_append.1 hr with hr | hr
        · exact hlen r hr
        · rw [List.mem_singleton.1 hr]
    · obtain ⟨i, hi1, hi2, hi3, hi4⟩ := a5K (fun x : Att => decide (x.1 = D6 l[k].1)) (grp (l.take k)) 0 hn; simp only [Nat.zero_add] at hi1; have hir : i < rs.length := by rw [← hg] at hi2; simpa using hi2
      have hi0 : ¬ (i : Int) < 0 := (by omega); have hvl : rs[i].2.2.length + l[k].2.length ≤ 1000000 := by
        have := b2e (l := rs.map nv) (x := nv rs[i]) (List.mem_map.2 ⟨_, gmm hir, rfl⟩); simp only [nv] at this; omega
      rw [hi1]; simp -implicitDefEqProofs [Y4, h9, h10, h11, h3, hlt, att, B6, hi0, hir, a0X, rw2, pr]; refine c4W (1000000 + i) (by simp [M3, hH i hir, hnd, hd]; rfl) (by simp) (by simp; omega) (by simp; omega) (fun A c => ?_); simp -implicitDefEqProofs [Y4, h9, h10, h11, h3, hlt, att, B6, hi0, hir, a0X, rw2, pr, M3, K3]; have hset : (rs.set i (rs[i].1, (A, rs[i].2.2.length + l[k].2.length, c), rs[i].2.2 ++ l[k].2)).length = rs.length := (by simp); refine ⟨by omega, D7 hlt ⟨by simp [h9, M3, K3], by simp [h10, M3, K3], by simp [M3, K3], rs.set i (rs[i].1, (A, rs[i].2.2.length + l[k].2.length, c), rs[i].2.2 ++ l[k].2), ?_, fun j hj => ?_, fun j hj => ?_, ?_, ?_⟩⟩
      · simp [M3, K3, a0X, rw2, pr, List.map_set]
      · rw [hset] at hj; by_cases hji : j = i
        · subst hji; simp [M3, K3, hnd, hd]
        · have hij : ¬ i = j := fun e => hji e.symm
          simp [M3, K3, hH j hj, hnd, hji, hij, List.getElem_set_ne]
      · rw [hset] at hj; have hji : ¬ j = i := (by omega); simp [M3, K3, hU j hj, hji]
      · rw [hnew, a1i, if_neg hn, hi1, List.map_set, ← hg]; rw [Int.toNat_natCast]; exact (a5S (fun x : Att => (x.1, x.2 ++ l[k].2)) _ _ (nv rs[i]) (by rw [List.getElem?_map, List.getElem?_eq_getElem hir]; rfl)).symm
      · intro r hr; rcases List.mem_or_eq_of_mem_set hr with hr | hr
        · exact hlen r hr
        · rw [hr]; simp
  · have hkl : k = l.length := (by omega); rw [hkl, List.take_length] at hg; have hrk : rs.length ≤ l.length := by
      have := b6w l; rw [← hg] at this; simpa using this
    have hmr : rs.map a0X = (rs.map pr).map rw2 := (by simp [a0X]); rw [hmr] at h3; have hf := b7Z 143 [] rfl (fun x => decide (x.2.2.1 = 0)) (rs.map pr) (by simp; omega) (fun a _ => b9f a); simp -implicitDefEqProofs [Y4, h9, h10, h11, h3, hlt, att, B6]; simp only [rw2, List.map_map] at hf; refine A1 hf ?_; obtain ⟨q0, hq0⟩ : ∃ q0 : List a6K, q0 = rs.zipIdx.filter fun q => !decide (q.1.2.1.2.1 = 0) := ⟨_, rfl⟩
    have e1 : ((rs.map pr).filter fun x => !decide (x.2.2.1 = 0)).map rw2 = q0.map q1 := by
      rw [hq0]; have : rs = rs.zipIdx.map (·.1) := by simp
      conv => lhs; rw [this]
      rw [List.map_map, List.filter_map, List.map_map]; rfl
    have e2 : q0.map (fun q => nv q.1) = (grp l).filter a9M := by
      rw [← hg, hq0]; have : rs = rs.zipIdx.map (·.1) := by simp
      conv => rhs; rw [this]
      rw [List.map_map, List.filter_map]; congr 1
      refine List.filter_congr (fun q hq => ?_); obtain ⟨hi, hr⟩ := b6F hq; have := hlen q.1 (hr ▸ gmm hi); simp [a9M, nv, this, List.length_eq_zero_iff]; exact decide_eq_decide.2 Iff.rfl
    have e3 : (q0.map (·.2)).Nodup := by
      rw [hq0]; have h1 : (rs.zipIdx.map (·.2)).Nodup := by rw [List.zipIdx_map_snd]; exact List.nodup_range'
      exact h1.sublist (List.filter_sublist.map _)
    have e4 : ∀ q ∈ q0, τ (1000000 + q.2) = hnd q.1 := by
      intro q hq; rw [hq0] at hq; obtain ⟨hi, hr⟩ := b6F (List.mem_filter.1 hq).1; rw [hH _ hi, hr]
    have e5 : q0.length ≤ rs.length := by rw [hq0]; exact Nat.le_trans (List.length_filter_le _ _) (by simp)
    rw [e1]; simp -implicitDefEqProofs [Y4, h9, h10, h11, h3, hlt, att, B6]; have e6 : ∀ a ∈ q0.map (fun q => nv q.1), a.2.length < 500000 := by
      intro a ha; rw [e2] at ha; have := b2e (List.mem_filter.1 ha).1; rw [b2H] at this; omega
    generalize hn0 : q0.map (fun q => nv q.1) = n0 at *; have hn0l : n0.length = q0.length := by rw [← hn0]; simp
    refine H2 q0.length (fun k τ => τ 46 = .d (.int .i64 q0.length) ∧ τ 47 = .d (.int .i64 k) ∧ ∃ qs : List a6K, τ 3 = .own true 72 (qs.map q1) ∧ c8f qs τ ∧ qs.map (fun q => nv q.1) = (n0.take k).map a8r ++ n0.drop k) ?_ ?_
    · refine ⟨by simp, by simp, q0, by simp, ⟨e3, fun q hq => ?_⟩, by simp [hn0]⟩; simp [M3, K3, e4 q hq, hnd]
    clear h9 h10 h11 h3 hH hU hk hlt hf e4 τ hkl; rintro j τ hj ⟨h46, h47, qs, h3, ⟨hnd1, hnd2⟩, hqs⟩; have hql : qs.length = q0.length := by
      have := congrArg List.length hqs; simp at this; omega
    by_cases hlt : j < q0.length
    · have hjq : j < qs.length := (by omega); have hjn : j < n0.length := (by omega); have hvj : nv qs[j].1 = n0[j] := by
        have h1 : (qs.map (fun q => nv q.1))[j]? = some (nv qs[j].1) := by simp [hjq]
        rw [hqs, List.getElem?_append_right (by simp; omega)] at h1; simp [Nat.min_eq_left (Nat.le_of_lt hjn), hjn] at h1; exact h1.symm
      have hvl : qs[j].1.2.2.length < 500000 := by
        have := e6 n0[j] (gmm hjn); rw [← hvj] at this; exact this
      have hnm := hnd2 qs[j] (gmm hjq); simp -implicitDefEqProofs [Y4, h46, h47, h3, hlt, hjq, q1, a0X, rw2, pr]; refine d0T (1000000 + qs[j].2) (e := 9) (l := qs[j].1.2.2.map .str) (by simp [M3, K3, hnm, hnd, hd]) (b1F qs[j].1.2.2 (by omega)) ?_; simp -implicitDefEqProofs [Y4, h46, h47, h3, hlt, hjq, q1, a0X, rw2, pr, M3, K3]; have hsl : (I4 qs[j].1.2.2).length = qs[j].1.2.2.length := (by simp [I4]); refine c7J (1000000 + qs[j].2) (e := 9) (l := (I4 qs[j].1.2.2).map .str) (by simp [M3, K3]) (b7m (I4 qs[j].1.2.2) (by omega)) (fun A c => ?_); simp -implicitDefEqProofs [Y4, h46, h47, h3, hlt, hjq, q1, a0X, rw2, pr, M3, K3]; refine ⟨by omega, D7 hlt ⟨by simp [h46, M3, K3], by simp [M3, K3], qs.set j ((qs[j].1.1, (A, (Go.Lib.compact (I4 qs[j].1.2.2)).length, c), Go.Lib.compact (I4 qs[j].1.2.2)), qs[j].2), ?_, ⟨?_, fun q hq => ?_⟩, ?_⟩⟩
      · simp [M3, K3, q1, a0X, rw2, pr, List.map_set]
      · rw [List.map_set]; have := List.set_getElem_self (i := j) (show j < (qs.map (·.2)).length by simpa using hjq); rw [List.getElem_map] at this; rw [this]; exact hnd1
      · obtain ⟨i, hi, rfl⟩ := List.mem_iff_getElem.1 hq; have hi' : i < qs.length := (by simpa using hi); by_cases hij : j = i
        · subst hij; simp [M3, K3, hnd, hd]
        · rw [List.getElem_set_ne hij]; have hne : ¬ qs[i].2 = qs[j].2 := fun e => by
            have h1 := List.pairwise_iff_getElem.1 hnd1; rcases Nat.lt_or_gt_of_ne hij with h2 | h2
            · exact h1 j i (by simpa using hjq) (by simpa using hi') h2 (by simpa using e.symm)
            · exact h1 i j (by simpa using hi') (by simpa using hjq) h2 (by simpa using e)
          simp [M3, K3, hnd2 qs[i] (gmm hi'), hne, hnd]
      · have hnn : nv ((qs[j].1.1, (A, (Go.Lib.compact (I4 qs[j].1.2.2)).length, c), Go.Lib.compact (I4 qs[j].1.2.2)) : Row) = a8r n0[j] := by
          rw [← hvj]; rfl
        have hl1 : ((n0.take j).map a8r).length = j := by simp; omega
        rw [List.map_set, hqs, List.set_append_right _ _ (by omega), hl1, Nat.sub_self, List.drop_eq_getElem_cons hjn, List.set_cons_zero, hnn, ← List.map_take, J0 hjn]; simp only [List.map_append, List.map_cons, List.map_nil, List.append_assoc, List.singleton_append]
    · simp -implicitDefEqProofs [Y4, h46, h47, h3, hlt]; have hjl : j = n0.length := (by omega); subst hjl; rw [List.take_length, List.drop_length, List.append_nil] at hqs; have hmq : qs.map q1 = (qs.map fun q => pr q.1).map rw2 := by rw [List.map_map]; rfl
      rw [hmq]; refine b7V (c0M (qs.map fun q => pr q.1) (by simp; omega)) ?_; obtain ⟨p1, p2⟩ := a6D (qs.map fun q => pr q.1)
      replace p2 : c4V (Y5 (qs.map fun q => pr q.1)) := p2
      generalize Y5 (qs.map fun q => pr q.1) = ms at p1 p2 ⊢; obtain ⟨qs', p3, rfl⟩ := b8U (fun q : a6K => pr q.1) p1 qs rfl; have hlen' : qs'.length = qs.length := p3.length_eq; have hT : ∀ (qs : List a6K) (τ' : St), (∀ q ∈ qs, τ' (1000000 + q.2) = hnd q.1) → (qs.map fun q => 1000000 + q.2).map τ' = (qs.map (·.1)).map hnd := by
        intro qs τ' h; rw [List.map_map, List.map_map]; exact List.map_congr_left h
      have hrow : (qs'.map fun q => pr q.1).map rw2 = qs'.map q1 := by rw [List.map_map]; rfl
      simp -implicitDefEqProofs [Y4, h46, h47, h3, hlt]; have hK : ∀ q ∈ qs', τ (1000000 + q.2) = hnd q.1 := fun q hq => hnd2 q (p3.mem_iff.1 hq)
      refine ⟨.own true 72 (qs'.map q1), qs'.map (fun q => 1000000 + q.2), ?_, fun k hk => ?_, ?_, qs'.map (·.1), ?_, ?_, ?_, ?_⟩
      · have h1 : (qs'.map (·.2)).Nodup := (p3.map _).nodup_iff.2 hnd1; have h2 := List.Pairwise.map (R := fun a b : Nat => a ≠ b) (S := fun a b : Nat => a ≠ b) (fun x => 1000000 + x) (fun a b h => by omega) h1; rw [List.map_map] at h2; exact h2
      · obtain ⟨q, hq, rfl⟩ := List.mem_map.1 hk; simp [M3, K3, hK q hq, hnd, isH]
      · simp [a1y, q1, a0X]
      · simp [q1]
      · rw [List.map_map, List.map_map]; refine List.map_congr_left fun q hq => ?_
        simp [M3, K3, hK q hq, hnd]
      · rw [List.map_map]; have h1 := p3.map (fun q : a6K => nv q.1); rw [hqs, e2] at h1; exact h1
      · intro i j hij hj; have := p2 i j hij (by simpa using hj); simpa [pr] using this
end Go.Proofs.Tz
namespace Go.Proofs.Tz
open Go.Vw Go.Lib
theorem bl (x y : Str) : Op.bytesLess x y = decide (x < y) := bytesLess_eq x y
theorem c1s {x y : Str} : Op.bytesLess x y = true ↔ x < y := by rw [bl]; simp
theorem b4b {x y : Str} : Op.bytesLess x y = false ↔ ¬ x < y := by rw [bl]; simp
theorem a4I (x : Str) : ¬ x < x := List.lt_irrefl x
theorem a1j {x y z : Str} (h1 : x < y) (h2 : y < z) : x < z := List.lt_trans h1 h2
theorem a2L {x y : Str} (h1 : ¬ x < y) (h2 : ¬ y < x) : x = y := List.le_antisymm (List.not_lt.1 h2) (List.not_lt.1 h1)
def SS (l : List Str) : Prop := l.Pairwise (· < ·)
theorem SS.nodup {l : List Str} (h : SS l) : l.Nodup := List.Pairwise.imp (R := fun a b : Str => a < b) (S := fun a b : Str => a ≠ b) (fun hab e => by subst e; exact a4I _ hab) h
theorem b0o {a b : List Str} (ha : SS a) (hb : SS b) (h : ∀ x, x ∈ a ↔ x ∈ b) : a = b := by
  have hp : a.Perm b := (List.perm_ext_iff_of_nodup ha.nodup hb.nodup).2 h; exact hp.eq_of_pairwise (fun x y _ _ h1 h2 => absurd (a1j h1 h2) (a4I x)) ha hb
def a3Q (s : Str) : List Str → List Str
  | [] => [s]
  | x :: l => if x < s then x :: a3Q s l else if x = s then x :: l else s :: x :: l
theorem a9u (s : Str) : ∀ (l out : List Str), (∀ x ∈ l, s < x) → l.foldl (a3k s) (true, out) = (true, out ++ l)
  | [], out, _ => by simp
  | x :: l, out, h => by
    have hx := h x (by simp); have hne : ¬ x = s := fun e => a4I s (e ▸ hx)
    have : a3k s (true, out) x = (true, out ++ [x]) := (by simp [a3k, hne]); rw [List.foldl_cons, this, a9u s l _ (fun y hy => h y (by simp [hy]))]; simp
theorem b9r (s : Str) : ∀ (l out : List Str), SS l → (l.foldl (a3k s) (false, out)).2 ++ (if (l.foldl (a3k s) (false, out)).1 then [] else [s]) = out ++ a3Q s l
  | [], out, _ => by simp [a3Q]
  | x :: l, out, h => by
    have hp := List.pairwise_cons.1 h; rw [List.foldl_cons, a3Q]; by_cases hx : x < s
    · have hne : ¬ x = s := fun e => a4I s (e ▸ hx)
      have : a3k s (false, out) x = (false, out ++ [x]) := (by simp [a3k, c1s.2 hx, hne]); rw [this, b9r s l _ hp.2, if_pos hx]; simp
    · rw [if_neg hx]; by_cases he : x = s
      · subst he; have : a3k x (false, out) x = (true, out ++ [x]) := (by simp [a3k, b4b.2 hx]); rw [this, a9u x l _ hp.1, if_pos rfl]; simp
      · have hs : s < x := Classical.byContradiction fun h2 => he (a2L hx h2)
        have : a3k s (false, out) x = (true, out ++ [s] ++ [x]) := (by simp [a3k, b4b.2 hx, he]); rw [this, a9u s l _ (fun y hy => a1j hs (hp.1 y hy)), if_neg he]; simp
theorem b9v {l : List Str} (h : SS l) (s : Str) : ins l s = a3Q s l := by
  have := b9r s l [] h; rw [List.nil_append] at this; exact this
theorem a9N (s : Str) : ∀ (l : List Str) (x : Str), x ∈ a3Q s l ↔ x = s ∨ x ∈ l
  | [], x => by simp [a3Q]
  | y :: l, x => by
    rw [a3Q]; split
    · simp only [List.mem_cons, a9N s l x]; constructor
      · rintro (h | h | h) <;> simp [h]
      · rintro (h | h | h) <;> simp [h]
    · split
      · rename_i h; subst h; simp
      · simp
theorem b6B (s : Str) : ∀ (l : List Str), SS l → SS (a3Q s l)
  | [], _ => by simp [a3Q, SS]
  | y :: l, h => by
    have hp := List.pairwise_cons.1 h; rw [a3Q]; split
    · rename_i hy
      refine List.pairwise_cons.2 ⟨fun z hz => ?_, b6B s l hp.2⟩; rcases (a9N s l z).1 hz with rfl | hz
      · exact hy
      · exact hp.1 z hz
    · rename_i hy
      split
      · exact h
      · rename_i he
        have hs : s < y := Classical.byContradiction fun h2 => he (a2L hy h2)
        refine List.pairwise_cons.2 ⟨fun z hz => ?_, h⟩; rcases List.mem_cons.1 hz with rfl | hz
        · exact hs
        · exact a1j hs (hp.1 z hz)
theorem b6D {l : List Str} (h : SS l) (s x : Str) : x ∈ ins l s ↔ x = s ∨ x ∈ l := by rw [b9v h]; exact a9N s l x
theorem b9Z {l : List Str} (h : SS l) (s : Str) : SS (ins l s) := by rw [b9v h]; exact b6B s l h
theorem a8Z : ∀ (vs l : List Str), SS l → SS (vs.foldl ins l) ∧ ∀ x, x ∈ vs.foldl ins l ↔ x ∈ l ∨ x ∈ vs
  | [], l, h => ⟨h, fun x => by simp⟩
  | v :: vs, l, h => by
    have := a8Z vs (ins l v) (b9Z h v); refine ⟨this.1, fun x => ?_⟩; rw [List.foldl_cons, this.2, b6D h]; simp only [List.mem_cons]; constructor
    · rintro ((h | h) | h) <;> simp [h]
    · rintro (h | h | h) <;> simp [h]
theorem a1C : ∀ (l : List Att) (ns : List Str), SS ns → SS (l.foldl a5c ns) ∧ ∀ x, x ∈ l.foldl a5c ns ↔ x ∈ ns ∨ ∃ a ∈ l, a.2 ≠ [] ∧ D6 a.1 = x
  | [], ns, h => ⟨h, fun x => by simp⟩
  | a :: l, ns, h => by
    rw [List.foldl_cons]; by_cases ha : a.2 = []
    · rw [a5c, if_pos ha]; have := a1C l ns h; refine ⟨this.1, fun x => ?_⟩; rw [this.2]; simp [ha]
    · rw [a5c, if_neg ha]; have := a1C l (ins ns (D6 a.1)) (b9Z h _); refine ⟨this.1, fun x => ?_⟩; rw [this.2, b6D h]; simp only [List.mem_cons, exists_eq_or_imp, ne_eq, ha, not_false_eq_true, true_and]; constructor
      · rintro ((h | h) | h)
        · exact .inr (.inl h.symm)
        · exact .inl h
        · exact .inr (.inr h)
      · rintro (h | h | h)
        · exact .inl (.inr h)
        · exact .inl (.inl h.symm)
        · exact .inr h
theorem a0F (n : Str) : ∀ (l : List Att) (vs : List Str), SS vs → SS (l.foldl (a5Y n) vs) ∧ ∀ x, x ∈ l.foldl (a5Y n) vs ↔ x ∈ vs ∨ ∃ a ∈ l, D6 a.1 = n ∧ x ∈ a.2
  | [], vs, h => ⟨h, fun x => by simp⟩
  | a :: l, vs, h => by
    rw [List.foldl_cons]; by_cases ha : D6 a.1 = n
    · rw [a5Y, if_pos ha]; have h1 := a8Z a.2 vs h; have := a0F n l _ h1.1; refine ⟨this.1, fun x => ?_⟩; rw [this.2, h1.2]; simp only [List.mem_cons, exists_eq_or_imp, ha, true_and]; constructor
      · rintro ((h | h) | h) <;> simp [h]
      · rintro (h | h | h) <;> simp [h]
    · rw [a5Y, if_neg ha]; have := a0F n l vs h; refine ⟨this.1, fun x => ?_⟩; rw [this.2]; simp [ha]
theorem a7T (l : List Str) : (I4 l).Pairwise fun x y => ¬ y < x := by
  have h := List.pairwise_mergeSort (le := fun x y : Str => decide (x ≤ y)) (fun a b c h1 h2 => by
    simp only [decide_eq_true_eq] at *; exact List.le_trans h1 h2) (fun a b => by
    simp only [Bool.or_eq_true, decide_eq_true_eq]; exact List.le_total a b) l
  exact h.imp fun h => by simpa using h
theorem b1Q (l : List Str) (x : Str) : x ∈ I4 l ↔ x ∈ l := by simp [I4]
theorem a7y (zs : List Str) (h : zs.Pairwise fun x y => ¬ y < x) : ∀ m, m ≤ zs.length → SS (compactUpTo zs.toArray m) ∧ ∀ x, x ∈ compactUpTo zs.toArray m ↔ x ∈ zs.take m
  | 0, _ => by simp [compactUpTo, SS]
  | m + 1, hm => by
    obtain ⟨h1, h2⟩ := a7y zs h m (by omega); have hlt : m < zs.length := (by omega); have hg : zs.toArray[m]! = zs[m] := by rw [getElem!_pos _ m (by simpa using hlt)]; simp
    have asc : ∀ i (hi : i < m), ¬ zs[m] < zs[i]'(by omega) := fun i hi => List.pairwise_iff_getElem.1 h i m (by omega) hlt hi
    rw [compactUpTo_succ, hg, J0 hlt]; by_cases hk : keeps zs.toArray m = true
    · rw [if_pos hk]; refine ⟨List.pairwise_append.2 ⟨h1, by simp, fun x hx y hy => ?_⟩, fun x => by rw [List.mem_append, List.mem_append, h2 x]⟩; rw [List.mem_singleton.1 hy]; obtain ⟨i, hi, rfl⟩ := List.mem_iff_getElem.1 ((h2 x).1 hx); have him : i < m := by simp at hi; omega
      simp only [List.getElem_take]; have hm0 : m ≠ 0 := (by omega); have hg1 : zs.toArray[m - 1]! = zs[m - 1] := by rw [getElem!_pos _ (m - 1) (by simp; omega)]; simp
      have hne : zs[m] ≠ zs[m - 1] := (by simpa [keeps, hm0, hg, hg1] using hk); have hlt2 : zs[m - 1] < zs[m] := Classical.byContradiction fun hc => hne (a2L (asc (m - 1) (by omega)) hc)
      by_cases hc : zs[i] < zs[m - 1]
      · exact a1j hc hlt2
      · by_cases hie : i = m - 1
        · subst hie; exact hlt2
        · have := List.pairwise_iff_getElem.1 h i (m - 1) (by omega) (by omega) (by omega); rw [a2L hc this]; exact hlt2
    · rw [if_neg hk, List.append_nil]; refine ⟨h1, fun x => ?_⟩; rw [h2 x]; have hk' : keeps zs.toArray m = false := (by simpa using hk); have hm0 : m ≠ 0 := fun e => by subst e; simp [keeps] at hk'
      have hg1 : zs.toArray[m - 1]! = zs[m - 1] := by rw [getElem!_pos _ (m - 1) (by simp; omega)]; simp
      have he : zs[m] = zs[m - 1] := (by simpa [keeps, hm0, hg, hg1] using hk'); have hin : zs[m] ∈ zs.take m := by
        rw [he]; exact List.mem_iff_getElem.2 ⟨m - 1, by simp; omega, by simp⟩
      simp only [List.mem_append, List.mem_singleton]; constructor
      · intro hx; exact .inl hx
      · rintro (hx | rfl)
        · exact hx
        · exact hin
theorem c8d (vs : List Str) : SS (compact (I4 vs)) ∧ ∀ x, x ∈ compact (I4 vs) ↔ x ∈ vs := by
  have h := a7y (I4 vs) (a7T vs) (I4 vs).length (Nat.le_refl _); refine ⟨h.1, fun x => ?_⟩; rw [← b1Q vs x]; have := h.2 x; rw [List.take_length] at this; exact this
theorem b6u {α : Type} (p : α → Bool) : ∀ (l : List α) (k : Nat), V9 p k l ≠ -1 → ∃ i : Nat, V9 p k l = ((k + i : Nat) : Int) ∧ ∃ h : i < l.length, p l[i] = true
  | [], k, h => absurd rfl h
  | x :: l, k, h => by
    rw [V9] at h ⊢; by_cases hx : p x = true
    · rw [if_pos hx]; exact ⟨0, by simp, by simp, hx⟩
    · rw [if_neg hx] at h ⊢; obtain ⟨i, h1, h2, h3⟩ := b6u p l (k + 1) h; exact ⟨i + 1, by rw [h1]; omega, by simpa using h2, by simpa using h3⟩
def Has (l : List Att) (n v : Str) : Prop := ∃ x ∈ l, x.1 = n ∧ v ∈ x.2
theorem c0f (acc : List Att) (a : Att) (hn : (acc.map (·.1)).Nodup) : ((a1i acc a).map (·.1)).Nodup ∧ ∀ n v, Has (a1i acc a) n v ↔ Has acc n v ∨ (D6 a.1 = n ∧ v ∈ a.2) := by
  unfold a1i; split
  · rename_i h
    have hf := a9v _ acc 0 h; have hno : ∀ x ∈ acc, ¬ x.1 = D6 a.1 := fun x hx => by
      have := List.filter_eq_self.1 hf x hx; simpa using this
    refine ⟨?_, fun n v => ?_⟩
    · rw [List.map_append, List.nodup_append]; refine ⟨hn, by simp, ?_⟩; intro x hx y hy e; simp at hy; obtain ⟨z, hz, rfl⟩ := List.mem_map.1 hx; exact hno z hz (e.trans hy)
    · simp only [Has, List.mem_append, List.mem_singleton]; constructor
      · rintro ⟨x, hx | rfl, h1, h2⟩
        · exact .inl ⟨x, hx, h1, h2⟩
        · exact .inr ⟨h1, h2⟩
      · rintro (⟨x, hx, h1, h2⟩ | ⟨h1, h2⟩)
        · exact ⟨x, .inl hx, h1, h2⟩
        · exact ⟨_, .inr rfl, h1, h2⟩
  · rename_i h
    obtain ⟨i, h1, hi, h3⟩ := b6u _ acc 0 h; simp only [Nat.zero_add] at h1; simp only [decide_eq_true_eq] at h3; rw [h1, Int.toNat_natCast, a5S (fun x : Att => (x.1, x.2 ++ a.2)) acc i acc[i] (List.getElem?_eq_getElem hi)]; refine ⟨?_, fun n v => ?_⟩
    · rw [List.map_set]; have := List.set_getElem_self (i := i) (show i < (acc.map (·.1)).length by simpa using hi); rw [List.getElem_map] at this; rw [this]; exact hn
    · simp only [Has]; constructor
      · rintro ⟨x, hx, e1, e2⟩; obtain ⟨j, hj, rfl⟩ := List.mem_iff_getElem.1 hx; have hj' : j < acc.length := (by simpa using hj); by_cases hij : i = j
        · subst hij; rw [List.getElem_set_self] at e1 e2; simp only [List.mem_append] at e1 e2; rcases e2 with e2 | e2
          · exact .inl ⟨_, gmm hi, e1, e2⟩
          · exact .inr ⟨h3.symm.trans e1, e2⟩
        · rw [List.getElem_set_ne hij] at e1 e2; exact .inl ⟨_, gmm hj', e1, e2⟩
      · rintro (⟨x, hx, e1, e2⟩ | ⟨e1, e2⟩)
        · obtain ⟨j, hj, rfl⟩ := List.mem_iff_getElem.1 hx; by_cases hij : i = j
          · subst hij; refine ⟨_, List.mem_iff_getElem.2 ⟨i, by simpa using hi, List.getElem_set_self _⟩, e1, by simp [e2]⟩
          · exact ⟨_, List.mem_iff_getElem.2 ⟨j, by simpa using hj, List.getElem_set_ne hij _⟩, e1, e2⟩
        · exact ⟨_, List.mem_iff_getElem.2 ⟨i, by simpa using hi, List.getElem_set_self _⟩, h3.trans e1, by simp [e2]⟩
theorem c1G (l : List Att) : ((grp l).map (·.1)).Nodup ∧ ∀ n v, Has (grp l) n v ↔ ∃ a ∈ l, D6 a.1 = n ∧ v ∈ a.2 := by
  have key : ∀ (l acc : List Att), (acc.map (·.1)).Nodup → ((l.foldl a1i acc).map (·.1)).Nodup ∧ ∀ n v, Has (l.foldl a1i acc) n v ↔ Has acc n v ∨ ∃ a ∈ l, D6 a.1 = n ∧ v ∈ a.2 := by
    intro l
    induction l with
    | nil => intro acc h; exact ⟨h, fun n v => by simp⟩
    | cons a l ih =>
      intro acc h; have h1 := c0f acc a h; have h2 := ih _ h1.1; refine ⟨h2.1, fun n v => ?_⟩; rw [List.foldl_cons, h2.2, h1.2]; simp only [List.mem_cons, exists_eq_or_imp, or_assoc]
  have := key l [] (by simp); exact ⟨this.1, fun n v => by rw [show grp l = l.foldl a1i [] from rfl, this.2]; simp [Has]⟩
theorem c0i (l out : List Att) (hp : out.Perm (((grp l).filter a9M).map a8r)) (hs : ∀ i j (_ : i < j) (hj : j < out.length), Op.bytesLess out[j].1 (out[i]'(by omega)).1 = false) : out = O0 l := by
  obtain ⟨g1, g2⟩ := c1G l; have hnames : (out.map (·.1)).Perm (((grp l).filter a9M).map (·.1)) := by
    have := hp.map (·.1); rw [List.map_map] at this; exact this
  have hnd : (out.map (·.1)).Nodup := hnames.nodup_iff.2 (g1.sublist (List.filter_sublist.map _)); have hSS : SS (out.map (·.1)) := by
    refine List.pairwise_iff_getElem.2 fun i j hi hj hij => ?_
    have hj' : j < out.length := (by simpa using hj); have h1 := hs i j hij hj'; rw [b4b] at h1; simp only [List.getElem_map]; refine Classical.byContradiction fun hc => ?_
    have he := a2L hc h1; exact List.pairwise_iff_getElem.1 hnd i j hi hj hij (by simpa using he)
  have hN := a1C l [] (by simp [SS]); have e1 : out.map (·.1) = b4E l := by
    refine b0o hSS hN.1 fun n => ?_
    rw [hnames.mem_iff, show b4E l = l.foldl a5c [] from rfl, hN.2]; simp only [List.mem_map, List.mem_filter, List.not_mem_nil, false_or]; constructor
    · rintro ⟨x, ⟨hx, hne⟩, rfl⟩; have hne' : x.2 ≠ [] := (by simpa [a9M] using hne); obtain ⟨v, hv⟩ := List.exists_mem_of_ne_nil _ hne'; obtain ⟨a, ha, e, hav⟩ := (g2 x.1 v).1 ⟨x, hx, rfl, hv⟩; exact ⟨a, ha, List.ne_nil_of_mem hav, e⟩
    · rintro ⟨a, ha, hne, e⟩; obtain ⟨v, hv⟩ := List.exists_mem_of_ne_nil _ hne; obtain ⟨x, hx, e2, hxv⟩ := (g2 n v).2 ⟨a, ha, e, hv⟩; exact ⟨x, ⟨hx, by simp [a9M]; exact List.ne_nil_of_mem hxv⟩, e2⟩
  have e2 : ∀ x ∈ out, x.2 = a6C l x.1 := by
    intro x hx; obtain ⟨y, hy, rfl⟩ := List.mem_map.1 (hp.mem_iff.1 hx); have hyg := (List.mem_filter.1 hy).1; have hv := c8d y.2; have hV := a0F y.1 l [] (by simp [SS]); refine b0o hv.1 hV.1 fun v => ?_
    rw [show a6C l (a8r y).1 = l.foldl (a5Y y.1) [] from rfl, hV.2]; refine (hv.2 v).trans ?_; simp only [List.not_mem_nil, false_or]; rw [← g2 y.1 v]; constructor
    · intro h; exact ⟨y, hyg, rfl, h⟩
    · rintro ⟨z, hz, e, h⟩; obtain ⟨i, hi, rfl⟩ := List.mem_iff_getElem.1 hz; obtain ⟨j, hj, rfl⟩ := List.mem_iff_getElem.1 hyg; have hij : i = j := by
        have h1 := List.pairwise_iff_getElem.1 g1; rcases Nat.lt_trichotomy i j with h2 | h2 | h2
        · have h3 := h1 i j (by simpa using hi) (by simpa using hj) h2; simp only [List.getElem_map] at h3; exact absurd e h3
        · exact h2
        · have h3 := h1 j i (by simpa using hj) (by simpa using hi) h2; simp only [List.getElem_map] at h3; exact absurd e.symm h3
      subst hij; exact h
  have e3 : out = out.map fun x => (x.1, a6C l x.1) := by
    conv => lhs; rw [← List.map_id' out]
    refine List.map_congr_left fun x hx => ?_
    rw [← e2 x hx]
  rw [e3, O0, ← e1, List.map_map]; rfl
end Go.Proofs.Tz