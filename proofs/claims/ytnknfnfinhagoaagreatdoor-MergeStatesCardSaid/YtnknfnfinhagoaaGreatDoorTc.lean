/-
  What the functions that the statements about merged states reach compute, part 3 of 6, for data of bounded size (each theorem states its bound).
-/import Derived.Test.YtnknfnfinhagoaaGreatDoorTb
import Derived.Test.YtnknfnfinhagoaaGreatDoorTa
import Derived.Lib.MakeNoZero
import Derived.Laws.IdiomCopy
import Derived.Test.YtnknfnfinhagoaaGreatDoorWc
import Derived.Sort.Walk0
import Derived.Shelf.SlSortCmp.WholeK
import Derived.Shelf.SlSortCmp.Whole1
import Derived.Shelf.SlSortCmp.NoneTotal
import Derived.Shelf.SlicesG.Cmp
import Derived.Shelf.SlicesG.CompactS
import Derived.Shelf.SlicesG.Delete
import Derived.Shelf.SortM.Plain
import Derived.Shelf.SortM.SortNone
import Derived.Shelf.SlLaysM
import Derived.Shelf.SlLaysF
import Derived.Shelf.SlLaysF0
import Derived.Shelf.SlLaysN
import Derived.Shelf.SlLaysW
import Derived.Shelf.SlLaysZ
import Derived.Shelf.SlGeneric
import Derived.Ground.SlgmProg
import Derived.Ground.SlgnProg
import Derived.Ground.SlsfProg
import Derived.Ground.SlmcProg
import Derived.Ground.GgzProg
import Derived.Test.YtnknfnfinhagoaaGreatDoorProg
import Derived.WalkKit
import Derived.Lib.RowBridge
open List
open Go.Proofs.Tryz
set_option linter.unusedSimpArgs false
set_option linter.unusedVariables false
set_option maxRecDepth 100000
set_option maxHeartbeats 8000000
namespace Go.Proofs.Tz
open Go.Vw Go.RowKit Go.Proofs
def a5t (l : List F8) : Prop := l.length < 1000000 /\ ∀ p ∈ l, List.length p.1 < 1000000 /\ List.length p.2 < 1000000
theorem a9j {l : List F8} {k : Nat} (h : k < l.length) : W9 (l.drop k) = if O9 l[k] = 0 then W9 (l.drop (k + 1)) else O9 l[k] := by
 rw [a0e h]; rfl
theorem a6y {p : F8} : O9 p = 0 ↔ K5 p.1 = true /\ I9 p.2 = true := by
 unfold O9; by_cases h1 : K5 p.1 = true <;> by_cases h2 : I9 p.2 = true <;> simp [h1, h2]
theorem a5l {s : Str} (h : K5 s = true) : s.length <= 64 := by
 simp only [K5, Bool.and_eq_true, decide_eq_true_eq] at h; exact h.1.1.2
theorem a3V {s : Str} (h : I9 s = true) : s.length <= 256 := by
 simp only [I9, Bool.and_eq_true, decide_eq_true_eq] at h; exact h.1.1.1.2
theorem b9P (l : List F8) (hl : a5t l) : Ctr prog 166 [.d (F2 l)] (.d (.int .i64 (V7 l))) := by
 refine fv (fun _ => false) func166 (by kernel_rfl) rfl rfl rfl rfl rfl ?_; obtain ⟨R, hR⟩ : ∃ R, V7 l = R := ⟨_, rfl⟩; rw [hR]; have hl1 := hl.1; simp -implicitDefEqProofs [F2]; refine F3 l.length (fun k τ => τ 0 = .d (.sl (l.map E9)) /\ τ 5 = .d (.sl (l.map E9)) /\ τ 6 = .d (.int .i64 l.length) /\ τ 7 = .d (.int .i64 k) /\ W9 l = W9 (l.drop k)) ⟨by simp, by simp, by simp, by simp, by simp⟩ ?_; rintro k τ hk ⟨h0, h5, h6, h7, hI⟩; by_cases hlt : k < l.length
 . have hlt' : (k : Int) < l.length := (by omega); obtain ⟨f1, f2⟩ := hl.2 l[k] (gmm hlt); rw [a9j hlt] at hI; generalize hp : l[k] = p at *; obtain ⟨n, v⟩ := p; have c1 := a9I n f1; have c2 := a7X v f2; rw [a8m] at c2; simp -implicitDefEqProofs [h0, h5, h6, h7, hlt, hlt', hp, E9]; refine A0 c1 ?_; by_cases hn : K5 n = true
   . simp -implicitDefEqProofs [h0, h5, h6, h7, hn]; refine A0 c2 ?_; by_cases hc : I9 v = true
     . have e : O9 (n, v) = 0 := a6y.2 ⟨hn, hc⟩; rw [if_pos e] at hI; simp -implicitDefEqProofs [h0, h5, h6, h7, hc]; (repeat refine ai (by omega) ?_); exact B8 hlt ⟨by simp [h0], by simp [h5], by simp [h6], by simp, hI⟩
     . have e : O9 (n, v) = 8 := (by simp [O9, hn, hc]); rw [e, if_neg (by omega)] at hI; have hq : R = 8 := by rw [<- hR, V7, hI, if_neg (by omega)]
       simp -implicitDefEqProofs [h0, h5, h6, h7, hc, hq]
   . have e : O9 (n, v) = 5 := (by simp [O9, hn]); rw [e, if_neg (by omega)] at hI; have hq : R = 5 := by rw [<- hR, V7, hI, if_neg (by omega)]
     simp -implicitDefEqProofs [h0, h5, h6, h7, hn, hq]
 . have hlt' : ¬ (k : Int) < l.length := (by omega); rw [drop_eq_nil_of_le (by omega), W9] at hI; rw [V7, if_pos hI] at hR; by_cases h8 : 8 < l.length
   . have h8' : (8 : Int) < l.length := (by omega); rw [if_pos h8] at hR; simp -implicitDefEqProofs [h0, h5, h6, h7, hlt', h8', <- hR]
   . have h8' : ¬ (8 : Int) < l.length := (by omega); rw [if_neg h8] at hR; simp -implicitDefEqProofs [h0, h5, h6, h7, hlt', h8', <- hR]
theorem b0C (c : UInt8) (p : Str) : ∀ (l : List Str), D9 c (l ++ [p]) = if l = [] then p else D9 c l ++ c :: p
 | [] => rfl
 | [q] => rfl
 | q :: r :: l => by
   have ih := b0C c p (r :: l); rw [if_neg (by simp)] at ih; rw [if_neg (by simp)]; have e1 : D9 c (q :: r :: l ++ [p]) = q ++ c :: D9 c (r :: l ++ [p]) := rfl; have e2 : D9 c (q :: r :: l) = q ++ c :: D9 c (r :: l) := rfl; rw [e1, e2, ih]; simp
def a0r (l : List F8) (k : Nat) : Str := D9 44 ((l.take k).map V5)
def U9 (l : List F8) (k : Nat) (n : Str) : Str := (if k = 0 then [] else a0r l k ++ [44]) ++ (D2 n ++ [61])
theorem a3q (l : List F8) : a0r l 0 = [] := by simp [a0r, D9]
theorem a7x {l : List F8} {k : Nat} (h : k < l.length) : a0r l (k + 1) = U9 l k l[k].1 ++ Q1 (S8 l[k].2) := by
 rw [a0r, F6 h, map_append, map_cons, map_nil, b0C, U9, a0r]; by_cases hk : k = 0
 . subst hk; simp [V5]
 . rw [if_neg hk, if_neg]
   . simp [V5]
   . intro e; have := congrArg List.length e; simp only [length_map, length_take, length_nil] at this; omega
theorem b5t (l : List F8) {k : Nat} (h : ¬ k < l.length) : a0r l k = D9 44 (l.map V5) := by
 have e : l.take k = l := ttl (by omega); rw [a0r, e]
theorem c1G (a : Str) (c : UInt8) : Q1 (a ++ [c]) = Q1 a ++ (if P5 c = true then [92, c] else [c]) := by simp [Q1]
theorem a5b {s : Str} {k : Nat} (h : k < s.length) : Q1 (s.take (k + 1)) = Q1 (s.take k) ++ (if P5 s[k] = true then [92, s[k]] else [s[k]]) := by rw [F6 h, c1G]
theorem a4E (s : Str) : (Q1 s).length <= 2 * s.length := by
 induction s with
 | nil => simp [Q1]
 | cons c s ih =>
   have e : Q1 (c :: s) = (if P5 c = true then [92, c] else [c]) ++ Q1 s := (by simp [Q1]); rw [e, length_append, length_cons]; split <;> simp <;> omega
theorem a9C {l : List F8} : ∀ {k : Nat}, k <= l.length -> (∀ p ∈ l.take k, O9 p = 0) -> (a0r l k).length <= 600 * k
 | 0, _, _ => by simp [a3q]
 | k + 1, hk, h => by
   have hlt : k < l.length := (by omega); have ih := a9C (l := l) (k := k) (by omega) (fun p hp => h p (by rw [F6 hlt, mem_append]; exact .inl hp)); have hp := a6y.1 (h l[k] (by rw [F6 hlt, mem_append]; exact .inr (by simp))); have a1 := a5l hp.1; have a2 := a3V hp.2; have a3 := a4E (S8 l[k].2); have a4 := a8q l[k].2; rw [a7x hlt, length_append, U9, length_append, length_append, N9]; split
   . simp; omega
   . simp; omega
theorem b5d {l : List F8} {k : Nat} {n : Str} (h : (a0r l k).length <= 600 * k) (hn : n.length <= 64) : (U9 l k n).length <= 600 * k + 66 := by
 rw [U9, length_append, length_append, N9]; split
 . simp; omega
 . simp; omega
theorem a6i (l : List F8) (hl : a5t l) : Ctr prog 120 [.d (F2 l)] (.tup [.d (.str (F9 l).1), .d (.int .i64 (F9 l).2)]) := by
 refine G6 (rv := .tmp 2) (rs := [.tmp 3]) (r := .d (.str (F9 l).1)) (ys := [.d (.int .i64 (F9 l).2)]) (fun i => i == 1000005 || i == 5000024 || i == 5000028 || i == 5000029 || i == 5000042 || i == 5000046 || i == 5000049) (by kernel_rfl) func120 (by kernel_rfl) rfl rfl (by simp) (nbl rfl) (by kernel_rfl) rfl rfl ?_; have c0 := b9P l hl; simp only [F2] at c0 ⊢; simp -implicitDefEqProofs; refine A0 c0 ?_; by_cases hc : V7 l = 0
 case neg =>
   simp -implicitDefEqProofs [hc, F9]
 have hF : F9 l = (D9 44 (l.map V5), 0) := by rw [F9, if_pos hc]
 rw [hF]; have hE : ∀ p ∈ l, O9 p = 0 := a3j.1 (by
   unfold V7 at hc; split at hc
   . assumption
   . rename_i h; exact absurd hc h)
 have h8 : l.length <= 8 := by
   unfold V7 at hc; split at hc
   . split at hc
     . omega
     . omega
   . rename_i h; exact absurd hc h
 simp -implicitDefEqProofs [hc]; refine b3G 1000000 1000001 5 (by simp) (by kernel_rfl) (by simp) (by simp) (fun b => ?_); simp -implicitDefEqProofs; refine F3 l.length (fun k τ => τ 15 = .d (.sl (l.map E9)) /\ τ 16 = .d (.int .i64 l.length) /\ τ 17 = .d (.int .i64 k) /\ τ 5 = .d (.raw (va b)) /\ a8I τ b (a0r l k)) ?_ ?_
 . exact ⟨by simp, by simp, by simp, by simp, .nilp, .slice none 0 0, .inl rfl, by simp [b3Q], by simp [a3q, B5]⟩
 rintro k τ hk ⟨h15, h16, h17, h5, p, hd, hp, hb, hh⟩; have hbl := a9C (l := l) hk (fun p hp => hE p (mem_of_mem_take hp)); by_cases hlt : k < l.length
 . obtain ⟨f1, f2⟩ := hl.2 l[k] (gmm hlt); obtain ⟨g1, g2⟩ := a6y.1 (hE l[k] (gmm hlt)); have hlt' : (k : Int) < l.length := (by omega); have hs := a7x hlt; have hr : ∃ r, l[k] = r := ⟨_, rfl⟩; obtain ⟨r, hr⟩ := hr; rw [hr] at f1 f2 g1 g2 hs; obtain ⟨n, v⟩ := r; simp only at f1 f2 g1 g2 hs; have a1 := a5l g1; have a2 := a3V g2; have a4 := a8q v; have c1 := a2F n f1; have c2 := c2K v f2; have hpl := b5d (n := n) hbl a1; have hll := N9 n; have key : ∀ (τ : St) (hd : Value) (p : D), (p = .nilp \/ p = .raw (va b)) -> True := fun _ _ _ _ => trivial
   by_cases hk0 : k = 0
   . have hP : U9 l k n = D2 n ++ [61] := by rw [U9, if_pos hk0]; rfl
     have z0 : ¬ (0 : Int) < (k : Int) := (by omega); have z1 : ¬ 0 < k := (by omega); have e0 : a0r l k = [] := by rw [hk0, a3q]
     rw [e0] at hh; simp -implicitDefEqProofs [h15, h16, h17, h5, hlt, hlt', hr, E9, z0, z1]; refine A0 c1 ?_; simp -implicitDefEqProofs [h15, h16, h17, h5]; refine N1 [1000000, 1000001] 1000000 (a0x (s := []) (hd := hd) hp (D2 n) (by simp [N9]; omega)) (by simp [hb, hh]) rfl (by simp) ?_; rintro r hs' ⟨hd1, rfl⟩; simp -implicitDefEqProofs [h15, h16, h17, h5, D8, E7]; refine N1 [1000000, 1000001] 1000000 (J8 (b := b) (s := D2 n) (hd := hd1) (.inr rfl) 61 (by omega)) (by simp) rfl (by simp) ?_; rintro r hs' ⟨hd2, rfl⟩; simp -implicitDefEqProofs [h15, h16, h17, h5, D8, E7]; refine A0 c2 ?_; generalize S8 v = w at *; simp -implicitDefEqProofs [h15, h16, h17, h5]; refine F3 w.length (fun i τ => τ 15 = .d (.sl (l.map E9)) /\ τ 16 = .d (.int .i64 l.length) /\ τ 17 = .d (.int .i64 k) /\ τ 5 = .d (.raw (va b)) /\ τ 8 = .d (.str w) /\ τ 34 = .d (.int .i64 w.length) /\ τ 35 = .d (.int .i64 i) /\ a8I τ b (U9 l k n ++ Q1 (w.take i))) ?_ ?_
     . exact ⟨by simp [h15], by simp [h16], by simp [h17], by simp [h5], by simp, by simp, by simp, .raw (va b), hd2, .inr rfl, by simp, by simp [hP, Q1, B5]⟩
     clear h15 h16 h17 h5 hb hh hp hd p hd1 hd2 τ; rintro i τ hi ⟨h15, h16, h17, h5, h8, h34, h35, p, hd, hp, hb, hh⟩; by_cases hil : i < List.length w
     . have hil' : (i : Int) < w.length := (by omega); have hs2 := a5b hil; have hel := a4E (w.take i); rw [length_take] at hel; by_cases h6 : P5 w[i] = true
       . rw [if_pos h6] at hs2; simp -implicitDefEqProofs [h15, h16, h17, h5, h8, h34, h35, hil, hil']; refine A0 (a0s w[i]) ?_; simp -implicitDefEqProofs [h15, h16, h17, h5, h8, h34, h35, hil, hil', h6]; refine N1 [1000000, 1000001] 1000000 (J8 (s := U9 l k n ++ Q1 (w.take i)) (hd := hd) hp 92 (by simp; omega)) (by simp [hb, hh]) rfl (by simp) ?_; rintro r hs' ⟨hd1, rfl⟩; simp -implicitDefEqProofs [h15, h16, h17, h5, h8, h34, h35, hil, hil', D8, E7]; refine N1 [1000000, 1000001] 1000000 (J8 (b := b) (s := U9 l k n ++ Q1 (w.take i) ++ [92]) (hd := hd1) (.inr rfl) w[i] (by simp; omega)) (by simp) rfl (by simp) ?_; rintro r hs' ⟨hd2, rfl⟩; simp -implicitDefEqProofs [h15, h16, h17, h5, h8, h34, h35, hil, hil', D8, E7]; (repeat refine ai (by omega) ?_); exact B8 hil ⟨by simp [h15], by simp [h16], by simp [h17], by simp [h5], by simp [h8], by simp [h34], by simp, .raw (va b), hd2, .inr rfl, by simp, by simp [hs2]⟩
       . rw [if_neg h6] at hs2; simp -implicitDefEqProofs [h15, h16, h17, h5, h8, h34, h35, hil, hil']; refine A0 (a0s w[i]) ?_; simp -implicitDefEqProofs [h15, h16, h17, h5, h8, h34, h35, hil, hil', h6]; refine N1 [1000000, 1000001] 1000000 (J8 (s := U9 l k n ++ Q1 (w.take i)) (hd := hd) hp w[i] (by simp; omega)) (by simp [hb, hh]) rfl (by simp) ?_; rintro r hs' ⟨hd1, rfl⟩; simp -implicitDefEqProofs [h15, h16, h17, h5, h8, h34, h35, hil, hil', D8, E7]; (repeat refine ai (by omega) ?_); exact B8 hil ⟨by simp [h15], by simp [h16], by simp [h17], by simp [h5], by simp [h8], by simp [h34], by simp, .raw (va b), hd1, .inr rfl, by simp, by simp [hs2]⟩
     . have hil' : ¬ (i : Int) < w.length := (by omega); rw [ttl (by omega)] at hh; simp -implicitDefEqProofs [h15, h16, h17, h5, h8, h34, h35, hil, hil']; (repeat refine ai (by omega) ?_); exact B8 hlt ⟨by simp [h15], by simp [h16], by simp, by simp [h5], p, hd, hp, by simp [hb], by simp [hs, hh]⟩
   . have hP : U9 l k n = a0r l k ++ [44] ++ (D2 n ++ [61]) := by rw [U9, if_neg hk0]
     have z0 : (0 : Int) < (k : Int) := (by omega); have z1 : 0 < k := (by omega); have z2 : ¬ k = 0 := hk0; simp -implicitDefEqProofs [h15, h16, h17, h5, hlt, hlt', hr, E9, z0, z1]; refine N1 [1000000, 1000001] 1000000 (J8 (s := a0r l k) (hd := hd) hp 44 (by omega)) (by simp [hb, hh]) rfl (by simp) ?_; rintro r hs' ⟨hd0, rfl⟩; simp -implicitDefEqProofs [h15, h16, h17, h5, D8, E7]; refine A0 c1 ?_; simp -implicitDefEqProofs [h15, h16, h17, h5]; refine N1 [1000000, 1000001] 1000000 (a0x (b := b) (s := a0r l k ++ [44]) (hd := hd0) (.inr rfl) (D2 n) (by simp [N9]; omega)) (by simp) rfl (by simp) ?_; rintro r hs' ⟨hd1, rfl⟩; simp -implicitDefEqProofs [h15, h16, h17, h5, D8, E7]; refine N1 [1000000, 1000001] 1000000 (J8 (b := b) (s := a0r l k ++ [44] ++ D2 n) (hd := hd1) (.inr rfl) 61 (by simp [N9]; omega)) (by simp) rfl (by simp) ?_; rintro r hs' ⟨hd2, rfl⟩; simp -implicitDefEqProofs [h15, h16, h17, h5, D8, E7]; refine A0 c2 ?_; generalize S8 v = w at *; simp -implicitDefEqProofs [h15, h16, h17, h5]; refine F3 w.length (fun i τ => τ 15 = .d (.sl (l.map E9)) /\ τ 16 = .d (.int .i64 l.length) /\ τ 17 = .d (.int .i64 k) /\ τ 5 = .d (.raw (va b)) /\ τ 8 = .d (.str w) /\ τ 34 = .d (.int .i64 w.length) /\ τ 35 = .d (.int .i64 i) /\ a8I τ b (U9 l k n ++ Q1 (w.take i))) ?_ ?_
     . exact ⟨by simp [h15], by simp [h16], by simp [h17], by simp [h5], by simp, by simp, by simp, .raw (va b), hd2, .inr rfl, by simp, by simp [hP, Q1, B5]⟩
     clear h15 h16 h17 h5 hb hh hp hd p hd0 hd1 hd2 τ; rintro i τ hi ⟨h15, h16, h17, h5, h8, h34, h35, p, hd, hp, hb, hh⟩; by_cases hil : i < List.length w
     . have hil' : (i : Int) < w.length := (by omega); have hs2 := a5b hil; have hel := a4E (w.take i); rw [length_take] at hel; by_cases h6 : P5 w[i] = true
       . rw [if_pos h6] at hs2; simp -implicitDefEqProofs [h15, h16, h17, h5, h8, h34, h35, hil, hil']; refine A0 (a0s w[i]) ?_; simp -implicitDefEqProofs [h15, h16, h17, h5, h8, h34, h35, hil, hil', h6]; refine N1 [1000000, 1000001] 1000000 (J8 (s := U9 l k n ++ Q1 (w.take i)) (hd := hd) hp 92 (by simp; omega)) (by simp [hb, hh]) rfl (by simp) ?_; rintro r hs' ⟨hd1, rfl⟩; simp -implicitDefEqProofs [h15, h16, h17, h5, h8, h34, h35, hil, hil', D8, E7]; refine N1 [1000000, 1000001] 1000000 (J8 (b := b) (s := U9 l k n ++ Q1 (w.take i) ++ [92]) (hd := hd1) (.inr rfl) w[i] (by simp; omega)) (by simp) rfl (by simp) ?_; rintro r hs' ⟨hd2, rfl⟩; simp -implicitDefEqProofs [h15, h16, h17, h5, h8, h34, h35, hil, hil', D8, E7]; (repeat refine ai (by omega) ?_); exact B8 hil ⟨by simp [h15], by simp [h16], by simp [h17], by simp [h5], by simp [h8], by simp [h34], by simp, .raw (va b), hd2, .inr rfl, by simp, by simp [hs2]⟩
       . rw [if_neg h6] at hs2; simp -implicitDefEqProofs [h15, h16, h17, h5, h8, h34, h35, hil, hil']; refine A0 (a0s w[i]) ?_; simp -implicitDefEqProofs [h15, h16, h17, h5, h8, h34, h35, hil, hil', h6]; refine N1 [1000000, 1000001] 1000000 (J8 (s := U9 l k n ++ Q1 (w.take i)) (hd := hd) hp w[i] (by simp; omega)) (by simp [hb, hh]) rfl (by simp) ?_; rintro r hs' ⟨hd1, rfl⟩; simp -implicitDefEqProofs [h15, h16, h17, h5, h8, h34, h35, hil, hil', D8, E7]; (repeat refine ai (by omega) ?_); exact B8 hil ⟨by simp [h15], by simp [h16], by simp [h17], by simp [h5], by simp [h8], by simp [h34], by simp, .raw (va b), hd1, .inr rfl, by simp, by simp [hs2]⟩
     . have hil' : ¬ (i : Int) < w.length := (by omega); rw [ttl (by omega)] at hh; simp -implicitDefEqProofs [h15, h16, h17, h5, h8, h34, h35, hil, hil']; (repeat refine ai (by omega) ?_); exact B8 hlt ⟨by simp [h15], by simp [h16], by simp, by simp [h5], p, hd, hp, by simp [hb], by simp [hs, hh]⟩
 . have hlt' : ¬ (k : Int) < l.length := (by omega); rw [b5t l hlt] at hh; simp -implicitDefEqProofs [h15, h16, h17, h5, hlt, hlt']; refine N1 [1000000, 1000001] 1000000 (a4Q (s := D9 44 (l.map V5)) (hd := hd) hp) (by simp [hb, hh]) rfl (by simp) ?_; rintro r hs' ⟨rfl, rfl⟩; simp -implicitDefEqProofs [h15, h16, h17, h5, D8, E7]
theorem b8J (a b : Str) : B5 a ++ B5 b = B5 (a ++ b) := by simp [B5]
theorem a3U (a : Str) : (B5 a).length = a.length := by simp [B5]
theorem a3i (l : List F8) (hl : a5t l) : Ctr prog 96 [.d (F2 l)] (.tup [.d (.str (F9 l).1), .d (.int .i64 (F9 l).2)]) := by
 refine G6 (rv := .tmp 2) (rs := [.tmp 3]) (r := .d (.str (F9 l).1)) (ys := [.d (.int .i64 (F9 l).2)]) (fun i => false) (by kernel_rfl) func96 (by kernel_rfl) rfl rfl (by simp) (nbl rfl) (by kernel_rfl) rfl rfl ?_; obtain ⟨R, hR⟩ : ∃ R, F9 l = R := ⟨_, rfl⟩; rw [hR]; have hl1 := hl.1; simp -implicitDefEqProofs [F2]; refine F3 l.length (fun k τ => τ 0 = .d (.sl (l.map E9)) /\ τ 5 = .d (.int .i64 k) /\ τ 4 = .own false 5 (B5 (a0r l k)) /\ W9 l = W9 (l.drop k) /\ ∀ p ∈ l.take k, O9 p = 0) ⟨by simp, by simp, by simp [a3q, B5], by simp, by simp⟩ ?_; rintro k τ hk ⟨h0, h5, h4, hI, hA⟩; have hbl := a9C (l := l) hk hA; have hbb := a3U (a0r l k); by_cases hlt : k < l.length
 . have hlt' : (k : Int) < l.length := (by omega); obtain ⟨f1, f2⟩ := hl.2 l[k] (gmm hlt); have hs := a7x hlt; have hA2 : O9 l[k] = 0 -> ∀ p ∈ l.take (k + 1), O9 p = 0 := fun h p hp => by
     rw [F6 hlt, mem_append, mem_singleton] at hp; rcases hp with hp | rfl
     . exact hA p hp
     . exact h
   rw [a9j hlt] at hI; have hr : ∃ r, l[k] = r := ⟨_, rfl⟩; obtain ⟨r, hr⟩ := hr; rw [hr] at f1 f2 hs hA2 hI; obtain ⟨n, v⟩ := r; simp only at f1 f2 hs; have c1 := b1I n; have c2 := a9P v; have c3 := a0l n f1; have c4 := b9J v f2; simp -implicitDefEqProofs [h0, h5, h4, hlt, hlt', hr, E9]; refine A0 c1 ?_; by_cases hn : K5 n = true
   case neg =>
     have e : O9 (n, v) = 5 := (by simp [O9, hn]); rw [e, if_neg (by omega)] at hI; have hq : R = ([], 5) := by rw [<- hR, F9, V7, hI, if_neg (by omega), if_neg (by omega)]
     simp -implicitDefEqProofs [h0, h5, h4, hn, hq]
   simp -implicitDefEqProofs [h0, h5, h4, hlt, hlt', hr, E9, hn]; refine A0 c2 ?_; by_cases hc : I9 v = true
   case neg =>
     have e : O9 (n, v) = 8 := (by simp [O9, hn, hc]); rw [e, if_neg (by omega)] at hI; have hq : R = ([], 8) := by rw [<- hR, F9, V7, hI, if_neg (by omega), if_neg (by omega)]
     simp -implicitDefEqProofs [h0, h5, h4, hc, hq]
   have e : O9 (n, v) = 0 := a6y.2 ⟨hn, hc⟩; rw [if_pos e] at hI; have hA3 := hA2 e; have a1 := a5l hn; have a2 := a3V hc; have a4 := a8q v; have hpl := b5d (n := n) hbl a1; have hll := N9 n; have hpb := a3U (U9 l k n); by_cases hk0 : k = 0
   . have hP : U9 l k n = D2 n ++ [61] := by rw [U9, if_pos hk0]; rfl
     have z0 : ¬ (0 : Int) < (k : Int) := (by omega); have z1 : ¬ 0 < k := (by omega); have e0 : a0r l k = [] := by rw [hk0, a3q]
     have hPb : B5 (D2 n) ++ [D.int .u8 61] = B5 (U9 l k n) := by rw [hP, <- b8J]; rfl
     rw [e0] at h4; simp only [B5, map_nil] at h4; simp -implicitDefEqProofs [h0, h5, h4, hlt, hlt', hr, E9, hc, z0, z1]; refine A0 c3 ?_; simp -implicitDefEqProofs [h0, h5, h4, hlt, hlt', hr, E9]; (repeat refine And.intro (by first | omega | (simp [B5, N9]; omega)) ?_); refine A0 c4 ?_; generalize S8 v = w at *; rw [hPb]; generalize U9 l k n = P at *; simp -implicitDefEqProofs [h0, h5]; refine F3 w.length (fun i τ => τ 0 = .d (.sl (l.map E9)) /\ τ 5 = .d (.int .i64 k) /\ τ 6 = .d (.str w) /\ τ 7 = .d (.int .i64 i) /\ τ 4 = .own false 5 (B5 (P ++ Q1 (w.take i)))) ?_ ?_
     . exact ⟨by simp [h0], by simp [h5], by simp, by simp, by simp [Q1]⟩
     clear h0 h5 h4 τ; rintro i τ hi ⟨h0, h5, h6, h7, h4⟩; have hel := a4E (w.take i); rw [length_take] at hel; by_cases hil : i < List.length w
     . have hil' : (i : Int) < w.length := (by omega); have hs2 := a5b hil; by_cases hsp : P5 w[i] = true
       . rw [if_pos hsp] at hs2; simp -implicitDefEqProofs [h0, h5, h6, h7, h4, hil, hil']; refine A0 (a0w w[i]) ?_; simp -implicitDefEqProofs [h0, h5, h6, h7, h4, hil, hil', hsp]; (repeat refine And.intro (by first | omega | (simp [B5]; omega)) ?_); exact B8 hil ⟨by simp [h0], by simp [h5], by simp [h6], by simp, by simp [hs2, B5]⟩
       . rw [if_neg hsp] at hs2; simp -implicitDefEqProofs [h0, h5, h6, h7, h4, hil, hil']; refine A0 (a0w w[i]) ?_; simp -implicitDefEqProofs [h0, h5, h6, h7, h4, hil, hil', hsp]; (repeat refine And.intro (by first | omega | (simp [B5]; omega)) ?_); exact B8 hil ⟨by simp [h0], by simp [h5], by simp [h6], by simp, by simp [hs2, B5]⟩
     . have hil' : ¬ (i : Int) < w.length := (by omega); rw [ttl (by omega)] at h4; simp -implicitDefEqProofs [h0, h5, h6, h7, h4, hil, hil']; (repeat refine ai (by omega) ?_); exact B8 hlt ⟨by simp [h0], by simp, by simp [hs, h4], hI, fun a b h => hA3 _ h⟩
   . have hP : U9 l k n = a0r l k ++ [44] ++ (D2 n ++ [61]) := by rw [U9, if_neg hk0]
     have z0 : (0 : Int) < (k : Int) := (by omega); have z1 : 0 < k := (by omega); have hPb : B5 (a0r l k) ++ D.int .u8 44 :: (B5 (D2 n) ++ [D.int .u8 61]) = B5 (U9 l k n) := by rw [hP]; simp [B5]
     simp -implicitDefEqProofs [h0, h5, h4, hlt, hlt', hr, E9, hc, z0, z1]; (repeat refine And.intro (by first | omega | (simp [B5]; omega)) ?_); refine A0 c3 ?_; simp -implicitDefEqProofs [h0, h5, h4, hlt, hlt', hr, E9]; (repeat refine And.intro (by first | omega | (simp [B5, N9]; omega)) ?_); refine A0 c4 ?_; generalize S8 v = w at *; rw [hPb]; generalize U9 l k n = P at *; simp -implicitDefEqProofs [h0, h5]; refine F3 w.length (fun i τ => τ 0 = .d (.sl (l.map E9)) /\ τ 5 = .d (.int .i64 k) /\ τ 6 = .d (.str w) /\ τ 7 = .d (.int .i64 i) /\ τ 4 = .own false 5 (B5 (P ++ Q1 (w.take i)))) ?_ ?_
     . exact ⟨by simp [h0], by simp [h5], by simp, by simp, by simp [Q1]⟩
     clear h0 h5 h4 τ; rintro i τ hi ⟨h0, h5, h6, h7, h4⟩; have hel := a4E (w.take i); rw [length_take] at hel; by_cases hil : i < List.length w
     . have hil' : (i : Int) < w.length := (by omega); have hs2 := a5b hil; by_cases hsp : P5 w[i] = true
       . rw [if_pos hsp] at hs2; simp -implicitDefEqProofs [h0, h5, h6, h7, h4, hil, hil']; refine A0 (a0w w[i]) ?_; simp -implicitDefEqProofs [h0, h5, h6, h7, h4, hil, hil', hsp]; (repeat refine And.intro (by first | omega | (simp [B5]; omega)) ?_); exact B8 hil ⟨by simp [h0], by simp [h5], by simp [h6], by simp, by simp [hs2, B5]⟩
       . rw [if_neg hsp] at hs2; simp -implicitDefEqProofs [h0, h5, h6, h7, h4, hil, hil']; refine A0 (a0w w[i]) ?_; simp -implicitDefEqProofs [h0, h5, h6, h7, h4, hil, hil', hsp]; (repeat refine And.intro (by first | omega | (simp [B5]; omega)) ?_); exact B8 hil ⟨by simp [h0], by simp [h5], by simp [h6], by simp, by simp [hs2, B5]⟩
     . have hil' : ¬ (i : Int) < w.length := (by omega); rw [ttl (by omega)] at h4; simp -implicitDefEqProofs [h0, h5, h6, h7, h4, hil, hil']; (repeat refine ai (by omega) ?_); exact B8 hlt ⟨by simp [h0], by simp, by simp [hs, h4], hI, fun a b h => hA3 _ h⟩
 . have hlt' : ¬ (k : Int) < l.length := (by omega); rw [b5t l hlt] at h4; rw [drop_eq_nil_of_le (by omega), W9] at hI; rw [F9, V7, if_pos hI] at hR; by_cases h8 : 8 < l.length
   . have h8' : (8 : Int) < l.length := (by omega); rw [if_pos h8, if_neg (by omega)] at hR; simp -implicitDefEqProofs [h0, h5, h4, hlt', h8', <- hR]
   . have h8' : ¬ (8 : Int) < l.length := (by omega); rw [if_neg h8, if_pos rfl] at hR; simp -implicitDefEqProofs [h0, h5, h4, hlt', h8', <- hR]
theorem c0A {s : Str} {p : F8} (h : Q2 s = (p, 0)) : List.length p.1 <= 64 /\ List.length p.2 <= 256 := by
 have := a6M h; exact ⟨a5l this.1, a3V this.2⟩
theorem b0L : ∀ {ps : List Str} {out : List F8}, (J0 out ps).2 ≠ 0 -> (J0 out ps).1 = []
 | [], out, h => by
   simp only [J0] at h ⊢; split
   . rfl
   . rename_i h8; rw [if_neg h8] at h; exact absurd rfl h
 | p :: ps, out, h => by
   simp only [J0] at h ⊢; by_cases h0 : (Q2 p).2 = 0
   . rw [if_pos h0] at h ⊢; exact b0L h
   . rw [if_neg h0]
theorem b1o {s : Str} (h : (D3 s).2 ≠ 0) : (D3 s).1 = [] := by
 unfold D3 at h ⊢; split
 . rfl
 . rename_i hs; rw [if_neg hs] at h; exact b0L h
theorem b8Q (s : Str) : (D3 s).1.length <= 8 /\ ∀ p ∈ (D3 s).1, List.length p.1 <= 64 /\ List.length p.2 <= 256 := by
 by_cases h : (D3 s).2 = 0
 . unfold D3 at h ⊢; split
   . simp
   . rename_i hs
     rw [if_neg hs] at h; have hc : J0 [] (M4 s) = ((J0 [] (M4 s)).1, 0) := by rw [<- h]
     obtain ⟨qs, hr, hl, h8, hq⟩ := a6w hc; refine ⟨h8, fun p hp => ?_⟩; rw [hr, nil_append] at hp; obtain ⟨i, hi, rfl⟩ := getElem_of_mem hp; exact c0A (hq i (by omega) hi)
 . rw [b1o h]; simp
theorem S2 (s : Str) : a5t (D3 s).1 := by
 obtain ⟨h1, h2⟩ := b8Q s; exact ⟨by omega, fun p hp => by have := h2 p hp; omega⟩
theorem a4t (s : Str) : K3 s = if H2 s = true then some (D3 s).1 else none := by
 unfold H2; by_cases h : (D3 s).2 = 0 /\ F9 (D3 s).1 = (s, 0)
 . have e : K3 s = some (D3 s).1 := by rw [K3, if_pos h]
   rw [e]; rfl
 . have e : K3 s = none := by rw [K3, if_neg h]
   rw [e]; rfl
theorem b2Q (s : Str) : H2 s = (decide ((D3 s).2 = 0) && (decide ((F9 (D3 s).1).2 = 0) && decide ((F9 (D3 s).1).1 = s))) := by
 unfold H2 K3; by_cases h1 : (D3 s).2 = 0
 . by_cases h2 : (F9 (D3 s).1).2 = 0
   . by_cases h3 : (F9 (D3 s).1).1 = s
     . have e : F9 (D3 s).1 = (s, 0) := by rw [<- h2]; exact Prod.ext h3 rfl
       rw [if_pos ⟨h1, e⟩, decide_eq_true h1, decide_eq_true h2, decide_eq_true h3]; rfl
     . have e : ¬ F9 (D3 s).1 = (s, 0) := fun q => h3 (by rw [q])
       rw [if_neg fun q => e q.2, decide_eq_true h1, decide_eq_true h2, decide_eq_false h3]; rfl
   . have e : ¬ F9 (D3 s).1 = (s, 0) := fun q => h2 (by rw [q])
     rw [if_neg fun q => e q.2, decide_eq_true h1, decide_eq_false h2]; rfl
 . rw [if_neg fun q => h1 q.1, decide_eq_false h1]; rfl
theorem a2p (s : Str) (hs : List.length s < 900000) : Ctr prog 104 [.d (.str s)] (.tup [.d (F2 (D3 s).1), .d (.bool (H2 s))]) := by
 refine G6 (rv := .tmp 2) (rs := [.tmp 3]) (r := .d (F2 (D3 s).1)) (ys := [.d (.bool (H2 s))]) (fun i => false) (by kernel_rfl) func104 (by kernel_rfl) rfl rfl (by simp) (nbl rfl) (by kernel_rfl) rfl rfl ?_; have c1 := b2k s hs; have c2 := a6i (D3 s).1 (S2 s); have he := b1o (s := s); rw [b2Q]; obtain ⟨⟨l, e⟩, hP⟩ : ∃ r, D3 s = r := ⟨_, rfl⟩; rw [hP] at c1 c2 he ⊢; simp only [F2] at *; generalize F9 l = G at *; obtain ⟨t, g⟩ := G; simp -implicitDefEqProofs; refine A0 c1 ?_; by_cases h0 : e = 0
 . simp -implicitDefEqProofs [h0]; refine A0 c2 ?_; by_cases h1 : g = 0
   . simp -implicitDefEqProofs [h1]
   . simp -implicitDefEqProofs [h1]
 . have := he h0; subst this; simp -implicitDefEqProofs [h0]
theorem c1C (s : Str) (hs : List.length s < 900000) : Ctr prog 54 [.d (.str s)] (.d (.bool (H2 s))) := by
 refine fv (fun _ => false) func54 (by kernel_rfl) rfl rfl rfl rfl rfl ?_; have c1 := a2p s hs; simp only [F2] at c1; simp -implicitDefEqProofs; refine A0 c1 ?_; simp -implicitDefEqProofs
theorem b9q (s : Str) : K8 s = if H2 s = true then (D3 s).1.length else 0 := by
 rw [K8, a4t]; split <;> rfl
theorem b9Z (s : Str) (hs : List.length s < 900000) : Ctr prog 68 [.d (.str s)] (.d (.int .i64 (K8 s))) := by
 refine fv (fun _ => false) func68 (by kernel_rfl) rfl rfl rfl rfl rfl ?_; have c1 := a2p s hs; rw [b9q]; simp only [F2] at c1; by_cases hv : H2 s = true
 . simp -implicitDefEqProofs; refine A0 c1 ?_; simp -implicitDefEqProofs [hv]
 . simp -implicitDefEqProofs; refine A0 c1 ?_; simp -implicitDefEqProofs [hv]
def a2A (s : Str) : Str × Int := if (D3 s).2 = 0 then F9 (D3 s).1 else ([], (D3 s).2)
theorem b7Q (s : Str) (hs : List.length s < 900000) : Ctr prog 129 [.d (.str s)] (.tup [.d (.str (a2A s).1), .d (.int .i64 (a2A s).2)]) := by
 refine G6 (rv := .tmp 2) (rs := [.tmp 3]) (r := .d (.str (a2A s).1)) (ys := [.d (.int .i64 (a2A s).2)]) (fun i => false) (by kernel_rfl) func129 (by kernel_rfl) rfl rfl (by simp) (nbl rfl) (by kernel_rfl) rfl rfl ?_; have c1 := a9X s hs; have c2 := a3i (D3 s).1 (S2 s); unfold a2A; obtain ⟨⟨l, e⟩, hP⟩ : ∃ r, D3 s = r := ⟨_, rfl⟩; rw [hP] at c1 c2 ⊢; simp only [F2] at *; generalize F9 l = G at *; obtain ⟨t, g⟩ := G; simp -implicitDefEqProofs; refine A0 c1 ?_; by_cases h0 : e = 0
 . simp -implicitDefEqProofs [h0]; refine A0 c2 ?_; simp -implicitDefEqProofs
 . simp -implicitDefEqProofs [h0]
theorem b3U (s : Str) : H2 s = (decide ((a2A s).2 = 0) && decide ((a2A s).1 = s)) := by
 rw [b2Q, a2A]; by_cases h : (D3 s).2 = 0
 . rw [if_pos h]; simp [h]
 . rw [if_neg h]; simp [h]
theorem b0h (s : Str) (hs : List.length s < 900000) : Ctr prog 85 [.d (.str s)] (.d (.bool (H2 s))) := by
 refine fv (fun _ => false) func85 (by kernel_rfl) rfl rfl rfl rfl rfl ?_; have c1 := b7Q s hs; rw [b3U]; generalize a2A s = G at *; obtain ⟨t, g⟩ := G; simp -implicitDefEqProofs; refine A0 c1 ?_; by_cases h0 : g = 0
 . simp -implicitDefEqProofs [h0]
 . simp -implicitDefEqProofs [h0]
def a2J (s : Str) : List F8 := (K3 s).getD []
theorem a7r (s : Str) : a2J s = if H2 s = true then (D3 s).1 else [] := by
 rw [a2J, a4t]; split <;> rfl
theorem a4T (s : Str) (hs : List.length s < 900000) : Ctr prog 121 [.d (.str s)] (.tup [.d (F2 (a2J s)), .d (.bool (H2 s))]) := by
 refine G6 (rv := .tmp 2) (rs := [.tmp 3]) (r := .d (F2 (a2J s))) (ys := [.d (.bool (H2 s))]) (fun i => false) (by kernel_rfl) func121 (by kernel_rfl) rfl rfl (by simp) (nbl rfl) (by kernel_rfl) rfl rfl ?_; have c1 := b0h s hs; have c2 := a9X s hs; rw [a7r]; simp only [F2] at *; simp -implicitDefEqProofs; refine A0 c1 ?_; by_cases hv : H2 s = true
 . simp -implicitDefEqProofs [hv]; refine A0 c2 ?_; simp -implicitDefEqProofs [hv]
 . simp -implicitDefEqProofs [hv]
theorem a8Y (s : Str) : a5t (a2J s) := by
 rw [a7r]; split
 . exact S2 s
 . exact ⟨by simp, by simp⟩
theorem b7W (s : Str) : (a2J s).length = K8 s := rfl
theorem b8Y (s : Str) (hs : List.length s < 900000) : Ctr prog 70 [.d (.str s)] (.d (.int .i64 (K8 s))) := by
 refine fv (fun _ => false) func70 (by kernel_rfl) rfl rfl rfl rfl rfl ?_; have c1 := a4T s hs; rw [<- b7W]; simp only [F2] at c1; simp -implicitDefEqProofs; refine A0 c1 ?_; simp -implicitDefEqProofs
theorem c0l (c : Chg) : Ctr prog 84 [.d (A3 c)] (.d (.bool (C8 c))) := by
 refine fv (fun _ => false) func84 (by kernel_rfl) rfl rfl rfl rfl rfl ?_; obtain ⟨n, op, id, nm, at_, va⟩ := c; unfold C8 B9 B7; simp only; by_cases h1 : op = 1 <;> by_cases h3 : op = 3 <;> by_cases h4 : op = 4 <;> by_cases h5 : op = 5 <;> first | omega | skip
 all_goals
   by_cases e1 : nm = [] <;> by_cases e2 : at_ = [] <;> by_cases e3 : va = [] <;> simp -implicitDefEqProofs [A3, A4, h1, h3, h4, h5, e1, e2, e3]
theorem c4Z (op : Int) (h1 : 1 <= op) (h5 : op <= 5) : Ctr prog 215 [.d (.int .i64 op)] (.d (.str (opW op))) := by
 refine fv (fun _ => false) func215 (by kernel_rfl) rfl rfl rfl rfl rfl ?_; have : op = 1 \/ op = 2 \/ op = 3 \/ op = 4 \/ op = 5 := (by omega); rcases this with rfl | rfl | rfl | rfl | rfl <;> simp -implicitDefEqProofs [opW] <;> decide
theorem a8Q (c : Chg) (hc : M8 c) : Ctr prog 24 [.d (A3 c)] (.d (.int .i64 (I6 c))) := by
 refine fv (fun _ => false) func24 (by kernel_rfl) rfl rfl rfl rfl rfl ?_; obtain ⟨f1, f2, f3, f4⟩ := hc; obtain ⟨n, op, id, nm, at_, va⟩ := c; simp only at f1 f2 f3 f4; have c1 := a7m n; have c2 := b6f id (by omega); have c3 := c1C nm (by omega); have c4 := a9I at_ (by omega); have c5 := a2F at_ (by omega); have c6 := a7X va (by omega); rw [a8m] at c6
 
 obtain ⟨R, hR⟩ : ∃ R, I6 (n, op, id, nm, at_, va) = R := ⟨_, rfl⟩; rw [hR]; unfold I6 at hR; simp only at hR; simp only [A4, A3] at c1 c2; generalize J5 id = P at *; obtain ⟨⟨p1, p2, p3⟩, pe⟩ := P; simp only at c2 hR; by_cases hv : M9 n = true
 case neg =>
   have hv' : M9 n = false := (by simpa using hv); rw [hv'] at c1; have hR2 : 2 = R := by rw [<- hR]; simp [hv']
   rw [<- hR2]; simp -implicitDefEqProofs [A3, A4]; refine A0 c1 ?_; simp -implicitDefEqProofs [A3, A4]
 rw [hv] at c1; by_cases hlo : op < 1
 case pos =>
   have hR2 : 2 = R := by rw [<- hR]; simp [hlo]
   rw [<- hR2]; simp -implicitDefEqProofs [A3, A4, hlo]; refine A0 c1 ?_; simp -implicitDefEqProofs [A3, A4, hlo]
 by_cases hhi : 5 < op
 case pos =>
   have hR2 : 2 = R := by rw [<- hR]; simp [hhi]
   rw [<- hR2]; simp -implicitDefEqProofs [A3, A4, hlo, hhi]; refine A0 c1 ?_; simp -implicitDefEqProofs [A3, A4, hlo, hhi]
 by_cases hpe : pe = 0
 case neg =>
   have hR2 : 4 = R := by rw [<- hR]; simp [hv, hlo, hhi, hpe]
   rw [<- hR2]; simp -implicitDefEqProofs [A3, A4, hlo, hhi, hpe]; refine A0 c1 ?_; simp -implicitDefEqProofs [A3, A4, hlo, hhi, hpe]; refine A0 c2 ?_; simp -implicitDefEqProofs [A3, A4, hlo, hhi, hpe]
 subst hpe; have : op = 1 \/ op = 2 \/ op = 3 \/ op = 4 \/ op = 5 := (by omega); clear hlo hhi; rcases this with rfl | rfl | rfl | rfl | rfl
 case inl =>
   by_cases e2 : at_ = []
   case neg =>
     have hR2 : 4 = R := by rw [<- hR]; simp [hv, B9, B7, C8, E8, e2]
     rw [<- hR2]; simp -implicitDefEqProofs [A3, A4, e2]; refine A0 c1 ?_; simp -implicitDefEqProofs [A3, A4, e2]; refine A0 c2 ?_; simp -implicitDefEqProofs [A3, A4, e2]
   by_cases e3 : va = []
   case neg =>
     have hR2 : 4 = R := by rw [<- hR]; simp [hv, B9, B7, C8, E8, e2, e3]
     rw [<- hR2]; simp -implicitDefEqProofs [A3, A4, e2, e3]; refine A0 c1 ?_; simp -implicitDefEqProofs [A3, A4, e2, e3]; refine A0 c2 ?_; simp -implicitDefEqProofs [A3, A4, e2, e3]
   by_cases e1 : nm = []
   case pos =>
     have hR2 : 5 = R := by rw [<- hR]; simp [hv, B9, B7, C8, E8, e1, e2, e3]
     rw [<- hR2]; simp -implicitDefEqProofs [A3, A4, e1, e2, e3]; refine A0 c1 ?_; simp -implicitDefEqProofs [A3, A4, e1, e2, e3]; refine A0 c2 ?_; simp -implicitDefEqProofs [A3, A4, e1, e2, e3]
   by_cases e4 : H2 nm = true
   case neg =>
     have e4' : H2 nm = false := (by simpa using e4); rw [e4'] at c3; have hR2 : 5 = R := by rw [<- hR]; simp [hv, B9, B7, C8, E8, e1, e2, e3, e4']
     rw [<- hR2]; simp -implicitDefEqProofs [A3, A4, e1, e2, e3]; refine A0 c1 ?_; simp -implicitDefEqProofs [A3, A4, e1, e2, e3]; refine A0 c2 ?_; simp -implicitDefEqProofs [A3, A4, e1, e2, e3]; refine B6 c3 ?_; simp -implicitDefEqProofs [A3, A4, e1, e2, e3]
   rw [e4] at c3; have hR2 : 0 = R := by rw [<- hR]; simp [hv, B9, B7, C8, E8, e1, e2, e3, e4]
   rw [<- hR2]; simp -implicitDefEqProofs [A3, A4, e1, e2, e3]; refine A0 c1 ?_; simp -implicitDefEqProofs [A3, A4, e1, e2, e3]; refine A0 c2 ?_; simp -implicitDefEqProofs [A3, A4, e1, e2, e3]; refine B6 c3 ?_; simp -implicitDefEqProofs [A3, A4, e1, e2, e3]
 case inr.inl =>
   by_cases e1 : nm = []
   case neg =>
     have hR2 : 4 = R := by rw [<- hR]; simp [hv, B9, B7, C8, E8, e1]
     rw [<- hR2]; simp -implicitDefEqProofs [A3, A4, e1]; refine A0 c1 ?_; simp -implicitDefEqProofs [A3, A4, e1]; refine A0 c2 ?_; simp -implicitDefEqProofs [A3, A4, e1]
   by_cases e2 : at_ = []
   case neg =>
     have hR2 : 4 = R := by rw [<- hR]; simp [hv, B9, B7, C8, E8, e1, e2]
     rw [<- hR2]; simp -implicitDefEqProofs [A3, A4, e1, e2]; refine A0 c1 ?_; simp -implicitDefEqProofs [A3, A4, e1, e2]; refine A0 c2 ?_; simp -implicitDefEqProofs [A3, A4, e1, e2]
   by_cases e3 : va = []
   case neg =>
     have hR2 : 4 = R := by rw [<- hR]; simp [hv, B9, B7, C8, E8, e1, e2, e3]
     rw [<- hR2]; simp -implicitDefEqProofs [A3, A4, e1, e2, e3]; refine A0 c1 ?_; simp -implicitDefEqProofs [A3, A4, e1, e2, e3]; refine A0 c2 ?_; simp -implicitDefEqProofs [A3, A4, e1, e2, e3]
   have hR2 : 0 = R := by rw [<- hR]; simp [hv, B9, B7, C8, E8, e1, e2, e3]
   rw [<- hR2]; simp -implicitDefEqProofs [A3, A4, e1, e2, e3]; refine A0 c1 ?_; simp -implicitDefEqProofs [A3, A4, e1, e2, e3]; refine A0 c2 ?_; simp -implicitDefEqProofs [A3, A4, e1, e2, e3]
 case inr.inr.inl =>
   by_cases e2 : at_ = []
   case neg =>
     have hR2 : 4 = R := by rw [<- hR]; simp [hv, B9, B7, C8, E8, e2]
     rw [<- hR2]; simp -implicitDefEqProofs [A3, A4, e2]; refine A0 c1 ?_; simp -implicitDefEqProofs [A3, A4, e2]; refine A0 c2 ?_; simp -implicitDefEqProofs [A3, A4, e2]
   by_cases e3 : va = []
   case neg =>
     have hR2 : 4 = R := by rw [<- hR]; simp [hv, B9, B7, C8, E8, e2, e3]
     rw [<- hR2]; simp -implicitDefEqProofs [A3, A4, e2, e3]; refine A0 c1 ?_; simp -implicitDefEqProofs [A3, A4, e2, e3]; refine A0 c2 ?_; simp -implicitDefEqProofs [A3, A4, e2, e3]
   by_cases e1 : nm = []
   case pos =>
     have hR2 : 5 = R := by rw [<- hR]; simp [hv, B9, B7, C8, E8, e1, e2, e3]
     rw [<- hR2]; simp -implicitDefEqProofs [A3, A4, e1, e2, e3]; refine A0 c1 ?_; simp -implicitDefEqProofs [A3, A4, e1, e2, e3]; refine A0 c2 ?_; simp -implicitDefEqProofs [A3, A4, e1, e2, e3]
   by_cases e4 : H2 nm = true
   case neg =>
     have e4' : H2 nm = false := (by simpa using e4); rw [e4'] at c3; have hR2 : 5 = R := by rw [<- hR]; simp [hv, B9, B7, C8, E8, e1, e2, e3, e4']
     rw [<- hR2]; simp -implicitDefEqProofs [A3, A4, e1, e2, e3]; refine A0 c1 ?_; simp -implicitDefEqProofs [A3, A4, e1, e2, e3]; refine A0 c2 ?_; simp -implicitDefEqProofs [A3, A4, e1, e2, e3]; refine B6 c3 ?_; simp -implicitDefEqProofs [A3, A4, e1, e2, e3]
   rw [e4] at c3; have hR2 : 0 = R := by rw [<- hR]; simp [hv, B9, B7, C8, E8, e1, e2, e3, e4]
   rw [<- hR2]; simp -implicitDefEqProofs [A3, A4, e1, e2, e3]; refine A0 c1 ?_; simp -implicitDefEqProofs [A3, A4, e1, e2, e3]; refine A0 c2 ?_; simp -implicitDefEqProofs [A3, A4, e1, e2, e3]; refine B6 c3 ?_; simp -implicitDefEqProofs [A3, A4, e1, e2, e3]
 case inr.inr.inr.inl =>
   by_cases e1 : nm = []
   case neg =>
     have hR2 : 4 = R := by rw [<- hR]; simp [hv, B9, B7, C8, E8, e1]
     rw [<- hR2]; simp -implicitDefEqProofs [A3, A4, e1]; refine A0 c1 ?_; simp -implicitDefEqProofs [A3, A4, e1]; refine A0 c2 ?_; simp -implicitDefEqProofs [A3, A4, e1]
   by_cases e4 : K5 at_ = true
   case neg =>
     have e4' : K5 at_ = false := (by simpa using e4); rw [e4'] at c4; have hR2 : 5 = R := by rw [<- hR]; simp [hv, B9, B7, C8, E8, e1, e4']
     rw [<- hR2]; simp -implicitDefEqProofs [A3, A4, e1]; refine A0 c1 ?_; simp -implicitDefEqProofs [A3, A4, e1]; refine A0 c2 ?_; simp -implicitDefEqProofs [A3, A4, e1]; refine B6 c4 ?_; simp -implicitDefEqProofs [A3, A4, e1]
   rw [e4] at c4; generalize hla : D2 at_ = la at *; by_cases e5 : la = at_
   case neg =>
     have hR2 : 5 = R := by rw [<- hR]; simp [hv, B9, B7, C8, E8, e1, e4, hla, e5]
     rw [<- hR2]; simp -implicitDefEqProofs [A3, A4, e1, e5]; refine A0 c1 ?_; simp -implicitDefEqProofs [A3, A4, e1, e5]; refine A0 c2 ?_; simp -implicitDefEqProofs [A3, A4, e1, e5]; refine B6 c4 ?_; simp -implicitDefEqProofs [A3, A4, e1, e5]; refine B6 c5 ?_; simp -implicitDefEqProofs [A3, A4, e1, e5]
   by_cases e6 : I9 va = true
   case neg =>
     have e6' : I9 va = false := (by simpa using e6); rw [e6'] at c6; have hR2 : 8 = R := by rw [<- hR]; simp [hv, B9, B7, C8, E8, e1, e4, hla, e5, e6']
     rw [<- hR2]; simp -implicitDefEqProofs [A3, A4, e1, e5]; refine A0 c1 ?_; simp -implicitDefEqProofs [A3, A4, e1, e5]; refine A0 c2 ?_; simp -implicitDefEqProofs [A3, A4, e1, e5]; refine B6 c4 ?_; simp -implicitDefEqProofs [A3, A4, e1, e5]; refine B6 c5 ?_; simp -implicitDefEqProofs [A3, A4, e1, e5]; refine A0 c6 ?_; simp -implicitDefEqProofs [A3, A4, e1, e5]
   rw [e6] at c6; have hR2 : 0 = R := by rw [<- hR]; simp [hv, B9, B7, C8, E8, e1, e4, hla, e5, e6]
   rw [<- hR2]; simp -implicitDefEqProofs [A3, A4, e1, e5]; refine A0 c1 ?_; simp -implicitDefEqProofs [A3, A4, e1, e5]; refine A0 c2 ?_; simp -implicitDefEqProofs [A3, A4, e1, e5]; refine B6 c4 ?_; simp -implicitDefEqProofs [A3, A4, e1, e5]; refine B6 c5 ?_; simp -implicitDefEqProofs [A3, A4, e1, e5]; refine A0 c6 ?_; simp -implicitDefEqProofs [A3, A4, e1, e5]
 case inr.inr.inr.inr =>
   by_cases e1 : nm = []
   case neg =>
     have hR2 : 4 = R := by rw [<- hR]; simp [hv, B9, B7, C8, E8, e1]
     rw [<- hR2]; simp -implicitDefEqProofs [A3, A4, e1]; refine A0 c1 ?_; simp -implicitDefEqProofs [A3, A4, e1]; refine A0 c2 ?_; simp -implicitDefEqProofs [A3, A4, e1]
   by_cases e4 : K5 at_ = true
   case neg =>
     have e4' : K5 at_ = false := (by simpa using e4); rw [e4'] at c4; have hR2 : 5 = R := by rw [<- hR]; simp [hv, B9, B7, C8, E8, e1, e4']
     rw [<- hR2]; simp -implicitDefEqProofs [A3, A4, e1]; refine A0 c1 ?_; simp -implicitDefEqProofs [A3, A4, e1]; refine A0 c2 ?_; simp -implicitDefEqProofs [A3, A4, e1]; refine B6 c4 ?_; simp -implicitDefEqProofs [A3, A4, e1]
   rw [e4] at c4; generalize hla : D2 at_ = la at *; by_cases e5 : la = at_
   case neg =>
     have hR2 : 5 = R := by rw [<- hR]; simp [hv, B9, B7, C8, E8, e1, e4, hla, e5]
     rw [<- hR2]; simp -implicitDefEqProofs [A3, A4, e1, e5]; refine A0 c1 ?_; simp -implicitDefEqProofs [A3, A4, e1, e5]; refine A0 c2 ?_; simp -implicitDefEqProofs [A3, A4, e1, e5]; refine B6 c4 ?_; simp -implicitDefEqProofs [A3, A4, e1, e5]; refine B6 c5 ?_; simp -implicitDefEqProofs [A3, A4, e1, e5]
   by_cases e6 : I9 va = true
   case neg =>
     have e6' : I9 va = false := (by simpa using e6); rw [e6'] at c6; have hR2 : 8 = R := by rw [<- hR]; simp [hv, B9, B7, C8, E8, e1, e4, hla, e5, e6']
     rw [<- hR2]; simp -implicitDefEqProofs [A3, A4, e1, e5]; refine A0 c1 ?_; simp -implicitDefEqProofs [A3, A4, e1, e5]; refine A0 c2 ?_; simp -implicitDefEqProofs [A3, A4, e1, e5]; refine B6 c4 ?_; simp -implicitDefEqProofs [A3, A4, e1, e5]; refine B6 c5 ?_; simp -implicitDefEqProofs [A3, A4, e1, e5]; refine A0 c6 ?_; simp -implicitDefEqProofs [A3, A4, e1, e5]
   rw [e6] at c6; have hR2 : 0 = R := by rw [<- hR]; simp [hv, B9, B7, C8, E8, e1, e4, hla, e5, e6]
   rw [<- hR2]; simp -implicitDefEqProofs [A3, A4, e1, e5]; refine A0 c1 ?_; simp -implicitDefEqProofs [A3, A4, e1, e5]; refine A0 c2 ?_; simp -implicitDefEqProofs [A3, A4, e1, e5]; refine B6 c4 ?_; simp -implicitDefEqProofs [A3, A4, e1, e5]; refine B6 c5 ?_; simp -implicitDefEqProofs [A3, A4, e1, e5]; refine A0 c6 ?_; simp -implicitDefEqProofs [A3, A4, e1, e5]
theorem b4x (c : Chg) (hc : M8 c) : Ctr prog 41 [.d (A3 c)] (.d (.int .i64 (I6 c))) := by
 refine fv (fun _ => false) func41 (by kernel_rfl) rfl rfl rfl rfl rfl ?_; obtain ⟨f1, f2, f3, f4⟩ := hc; obtain ⟨n, op, id, nm, at_, va⟩ := c; simp only at f1 f2 f3 f4; have c1 := a6b n; have c2 := b5k id (by omega); have c3 := b0h nm (by omega); have c4 := b1I at_; have c5 := a0l at_ (by omega); have c6 := a9P va
 
 have c7 := c0l (n, op, id, nm, at_, va); obtain ⟨R, hR⟩ : ∃ R, I6 (n, op, id, nm, at_, va) = R := ⟨_, rfl⟩; rw [hR]; unfold I6 at hR; simp only at hR; simp only [A4, A3] at c1 c2 c7; generalize J5 id = P at *; obtain ⟨⟨p1, p2, p3⟩, pe⟩ := P; simp only at c2 hR; by_cases hv : M9 n = true
 case neg =>
   have hv' : M9 n = false := (by simpa using hv); rw [hv'] at c1; have hR2 : 2 = R := by rw [<- hR]; simp [hv']
   rw [<- hR2]; simp -implicitDefEqProofs [A3, A4]; refine A0 c1 ?_; simp -implicitDefEqProofs [A3, A4]
 rw [hv] at c1; by_cases hlo : op < 1
 case pos =>
   have hR2 : 2 = R := by rw [<- hR]; simp [hlo]
   rw [<- hR2]; simp -implicitDefEqProofs [A3, A4, hlo]; refine A0 c1 ?_; simp -implicitDefEqProofs [A3, A4, hlo]
 by_cases hhi : 5 < op
 case pos =>
   have hR2 : 2 = R := by rw [<- hR]; simp [hhi]
   rw [<- hR2]; simp -implicitDefEqProofs [A3, A4, hlo, hhi]; refine A0 c1 ?_; simp -implicitDefEqProofs [A3, A4, hlo, hhi]
 by_cases hpe : pe = 0
 case neg =>
   have hR2 : 4 = R := by rw [<- hR]; simp [hv, hlo, hhi, hpe]
   rw [<- hR2]; simp -implicitDefEqProofs [A3, A4, hlo, hhi, hpe]; refine A0 c1 ?_; simp -implicitDefEqProofs [A3, A4, hlo, hhi, hpe]; refine A0 c2 ?_; simp -implicitDefEqProofs [A3, A4, hlo, hhi, hpe]
 subst hpe; have : op = 1 \/ op = 2 \/ op = 3 \/ op = 4 \/ op = 5 := (by omega); clear hlo hhi; rcases this with rfl | rfl | rfl | rfl | rfl
 case inl =>
   by_cases e2 : at_ = []
   case neg =>
     rw [show C8 (n, 1, id, nm, at_, va) = true by simp [C8, B9, B7, e2]] at c7; have hR2 : 4 = R := by rw [<- hR]; simp [hv, B9, B7, C8, E8, e2]
     rw [<- hR2]; simp -implicitDefEqProofs [A3, A4]; refine A0 c1 ?_; simp -implicitDefEqProofs [A3, A4]; refine A0 c2 ?_; simp -implicitDefEqProofs [A3, A4]; refine A0 c7 ?_; simp -implicitDefEqProofs [A3, A4, e2]
   by_cases e3 : va = []
   case neg =>
     rw [show C8 (n, 1, id, nm, at_, va) = true by simp [C8, B9, B7, e2, e3]] at c7; have hR2 : 4 = R := by rw [<- hR]; simp [hv, B9, B7, C8, E8, e2, e3]
     rw [<- hR2]; simp -implicitDefEqProofs [A3, A4]; refine A0 c1 ?_; simp -implicitDefEqProofs [A3, A4]; refine A0 c2 ?_; simp -implicitDefEqProofs [A3, A4]; refine A0 c7 ?_; simp -implicitDefEqProofs [A3, A4, e2, e3]
   rw [show C8 (n, 1, id, nm, at_, va) = false by simp [C8, B9, B7, e2, e3]] at c7; by_cases e1 : nm = []
   case pos =>
     have hR2 : 5 = R := by rw [<- hR]; simp [hv, B9, B7, C8, E8, e1, e2, e3]
     rw [<- hR2]; simp -implicitDefEqProofs [A3, A4]; refine A0 c1 ?_; simp -implicitDefEqProofs [A3, A4]; refine A0 c2 ?_; simp -implicitDefEqProofs [A3, A4]; refine A0 c7 ?_; simp -implicitDefEqProofs [A3, A4, e1, e2, e3]
   by_cases e4 : H2 nm = true
   case neg =>
     have e4' : H2 nm = false := (by simpa using e4); rw [e4'] at c3; have hR2 : 5 = R := by rw [<- hR]; simp [hv, B9, B7, C8, E8, e1, e2, e3, e4']
     rw [<- hR2]; simp -implicitDefEqProofs [A3, A4]; refine A0 c1 ?_; simp -implicitDefEqProofs [A3, A4]; refine A0 c2 ?_; simp -implicitDefEqProofs [A3, A4]; refine A0 c7 ?_; simp -implicitDefEqProofs [A3, A4, e1, e2, e3]; refine A0 c3 ?_; simp -implicitDefEqProofs [A3, A4, e1, e2, e3]
   rw [e4] at c3; have hR2 : 0 = R := by rw [<- hR]; simp [hv, B9, B7, C8, E8, e1, e2, e3, e4]
   rw [<- hR2]; simp -implicitDefEqProofs [A3, A4]; refine A0 c1 ?_; simp -implicitDefEqProofs [A3, A4]; refine A0 c2 ?_; simp -implicitDefEqProofs [A3, A4]; refine A0 c7 ?_; simp -implicitDefEqProofs [A3, A4, e1, e2, e3]; refine A0 c3 ?_; simp -implicitDefEqProofs [A3, A4, e1, e2, e3]
 case inr.inl =>
   by_cases e1 : nm = []
   case neg =>
     rw [show C8 (n, 2, id, nm, at_, va) = true by simp [C8, B9, B7, e1]] at c7; have hR2 : 4 = R := by rw [<- hR]; simp [hv, B9, B7, C8, E8, e1]
     rw [<- hR2]; simp -implicitDefEqProofs [A3, A4]; refine A0 c1 ?_; simp -implicitDefEqProofs [A3, A4]; refine A0 c2 ?_; simp -implicitDefEqProofs [A3, A4]; refine A0 c7 ?_; simp -implicitDefEqProofs [A3, A4, e1]
   by_cases e2 : at_ = []
   case neg =>
     rw [show C8 (n, 2, id, nm, at_, va) = true by simp [C8, B9, B7, e1, e2]] at c7; have hR2 : 4 = R := by rw [<- hR]; simp [hv, B9, B7, C8, E8, e1, e2]
     rw [<- hR2]; simp -implicitDefEqProofs [A3, A4]; refine A0 c1 ?_; simp -implicitDefEqProofs [A3, A4]; refine A0 c2 ?_; simp -implicitDefEqProofs [A3, A4]; refine A0 c7 ?_; simp -implicitDefEqProofs [A3, A4, e1, e2]
   by_cases e3 : va = []
   case neg =>
     rw [show C8 (n, 2, id, nm, at_, va) = true by simp [C8, B9, B7, e1, e2, e3]] at c7; have hR2 : 4 = R := by rw [<- hR]; simp [hv, B9, B7, C8, E8, e1, e2, e3]
     rw [<- hR2]; simp -implicitDefEqProofs [A3, A4]; refine A0 c1 ?_; simp -implicitDefEqProofs [A3, A4]; refine A0 c2 ?_; simp -implicitDefEqProofs [A3, A4]; refine A0 c7 ?_; simp -implicitDefEqProofs [A3, A4, e1, e2, e3]
   rw [show C8 (n, 2, id, nm, at_, va) = false by simp [C8, B9, B7, e1, e2, e3]] at c7; have hR2 : 0 = R := by rw [<- hR]; simp [hv, B9, B7, C8, E8, e1, e2, e3]
   rw [<- hR2]; simp -implicitDefEqProofs [A3, A4]; refine A0 c1 ?_; simp -implicitDefEqProofs [A3, A4]; refine A0 c2 ?_; simp -implicitDefEqProofs [A3, A4]; refine A0 c7 ?_; simp -implicitDefEqProofs [A3, A4, e1, e2, e3]
 case inr.inr.inl =>
   by_cases e2 : at_ = []
   case neg =>
     rw [show C8 (n, 3, id, nm, at_, va) = true by simp [C8, B9, B7, e2]] at c7; have hR2 : 4 = R := by rw [<- hR]; simp [hv, B9, B7, C8, E8, e2]
     rw [<- hR2]; simp -implicitDefEqProofs [A3, A4]; refine A0 c1 ?_; simp -implicitDefEqProofs [A3, A4]; refine A0 c2 ?_; simp -implicitDefEqProofs [A3, A4]; refine A0 c7 ?_; simp -implicitDefEqProofs [A3, A4, e2]
   by_cases e3 : va = []
   case neg =>
     rw [show C8 (n, 3, id, nm, at_, va) = true by simp [C8, B9, B7, e2, e3]] at c7; have hR2 : 4 = R := by rw [<- hR]; simp [hv, B9, B7, C8, E8, e2, e3]
     rw [<- hR2]; simp -implicitDefEqProofs [A3, A4]; refine A0 c1 ?_; simp -implicitDefEqProofs [A3, A4]; refine A0 c2 ?_; simp -implicitDefEqProofs [A3, A4]; refine A0 c7 ?_; simp -implicitDefEqProofs [A3, A4, e2, e3]
   rw [show C8 (n, 3, id, nm, at_, va) = false by simp [C8, B9, B7, e2, e3]] at c7; by_cases e1 : nm = []
   case pos =>
     have hR2 : 5 = R := by rw [<- hR]; simp [hv, B9, B7, C8, E8, e1, e2, e3]
     rw [<- hR2]; simp -implicitDefEqProofs [A3, A4]; refine A0 c1 ?_; simp -implicitDefEqProofs [A3, A4]; refine A0 c2 ?_; simp -implicitDefEqProofs [A3, A4]; refine A0 c7 ?_; simp -implicitDefEqProofs [A3, A4, e1, e2, e3]
   by_cases e4 : H2 nm = true
   case neg =>
     have e4' : H2 nm = false := (by simpa using e4); rw [e4'] at c3; have hR2 : 5 = R := by rw [<- hR]; simp [hv, B9, B7, C8, E8, e1, e2, e3, e4']
     rw [<- hR2]; simp -implicitDefEqProofs [A3, A4]; refine A0 c1 ?_; simp -implicitDefEqProofs [A3, A4]; refine A0 c2 ?_; simp -implicitDefEqProofs [A3, A4]; refine A0 c7 ?_; simp -implicitDefEqProofs [A3, A4, e1, e2, e3]; refine A0 c3 ?_; simp -implicitDefEqProofs [A3, A4, e1, e2, e3]
   rw [e4] at c3; have hR2 : 0 = R := by rw [<- hR]; simp [hv, B9, B7, C8, E8, e1, e2, e3, e4]
   rw [<- hR2]; simp -implicitDefEqProofs [A3, A4]; refine A0 c1 ?_; simp -implicitDefEqProofs [A3, A4]; refine A0 c2 ?_; simp -implicitDefEqProofs [A3, A4]; refine A0 c7 ?_; simp -implicitDefEqProofs [A3, A4, e1, e2, e3]; refine A0 c3 ?_; simp -implicitDefEqProofs [A3, A4, e1, e2, e3]
 case inr.inr.inr.inl =>
   by_cases e1 : nm = []
   case neg =>
     rw [show C8 (n, 4, id, nm, at_, va) = true by simp [C8, B9, B7, e1]] at c7; have hR2 : 4 = R := by rw [<- hR]; simp [hv, B9, B7, C8, E8, e1]
     rw [<- hR2]; simp -implicitDefEqProofs [A3, A4]; refine A0 c1 ?_; simp -implicitDefEqProofs [A3, A4]; refine A0 c2 ?_; simp -implicitDefEqProofs [A3, A4]; refine A0 c7 ?_; simp -implicitDefEqProofs [A3, A4, e1]
   rw [show C8 (n, 4, id, nm, at_, va) = false by simp [C8, B9, B7, e1]] at c7; by_cases e4 : K5 at_ = true
   case neg =>
     have e4' : K5 at_ = false := (by simpa using e4); rw [e4'] at c4; have hR2 : 5 = R := by rw [<- hR]; simp [hv, B9, B7, C8, E8, e1, e4']
     rw [<- hR2]; simp -implicitDefEqProofs [A3, A4]; refine A0 c1 ?_; simp -implicitDefEqProofs [A3, A4]; refine A0 c2 ?_; simp -implicitDefEqProofs [A3, A4]; refine A0 c7 ?_; simp -implicitDefEqProofs [A3, A4, e1]; refine B6 c4 ?_; simp -implicitDefEqProofs [A3, A4, e1]
   rw [e4] at c4; generalize hla : D2 at_ = la at *; by_cases e5 : la = at_
   case neg =>
     have hR2 : 5 = R := by rw [<- hR]; simp [hv, B9, B7, C8, E8, e1, e4, hla, e5]
     rw [<- hR2]; simp -implicitDefEqProofs [A3, A4]; refine A0 c1 ?_; simp -implicitDefEqProofs [A3, A4]; refine A0 c2 ?_; simp -implicitDefEqProofs [A3, A4]; refine A0 c7 ?_; simp -implicitDefEqProofs [A3, A4, e1, e5]; refine B6 c4 ?_; simp -implicitDefEqProofs [A3, A4, e1, e5]; refine B6 c5 ?_; simp -implicitDefEqProofs [A3, A4, e1, e5]
   by_cases e6 : I9 va = true
   case neg =>
     have e6' : I9 va = false := (by simpa using e6); rw [e6'] at c6; have hR2 : 8 = R := by rw [<- hR]; simp [hv, B9, B7, C8, E8, e1, e4, hla, e5, e6']
     rw [<- hR2]; simp -implicitDefEqProofs [A3, A4]; refine A0 c1 ?_; simp -implicitDefEqProofs [A3, A4]; refine A0 c2 ?_; simp -implicitDefEqProofs [A3, A4]; refine A0 c7 ?_; simp -implicitDefEqProofs [A3, A4, e1, e5]; refine B6 c4 ?_; simp -implicitDefEqProofs [A3, A4, e1, e5]; refine B6 c5 ?_; simp -implicitDefEqProofs [A3, A4, e1, e5]; refine A0 c6 ?_; simp -implicitDefEqProofs [A3, A4, e1, e5]
   rw [e6] at c6; have hR2 : 0 = R := by rw [<- hR]; simp [hv, B9, B7, C8, E8, e1, e4, hla, e5, e6]
   rw [<- hR2]; simp -implicitDefEqProofs [A3, A4]; refine A0 c1 ?_; simp -implicitDefEqProofs [A3, A4]; refine A0 c2 ?_; simp -implicitDefEqProofs [A3, A4]; refine A0 c7 ?_; simp -implicitDefEqProofs [A3, A4, e1, e5]; refine B6 c4 ?_; simp -implicitDefEqProofs [A3, A4, e1, e5]; refine B6 c5 ?_; simp -implicitDefEqProofs [A3, A4, e1, e5]; refine A0 c6 ?_; simp -implicitDefEqProofs [A3, A4, e1, e5]
 case inr.inr.inr.inr =>
   by_cases e1 : nm = []
   case neg =>
     rw [show C8 (n, 5, id, nm, at_, va) = true by simp [C8, B9, B7, e1]] at c7; have hR2 : 4 = R := by rw [<- hR]; simp [hv, B9, B7, C8, E8, e1]
     rw [<- hR2]; simp -implicitDefEqProofs [A3, A4]; refine A0 c1 ?_; simp -implicitDefEqProofs [A3, A4]; refine A0 c2 ?_; simp -implicitDefEqProofs [A3, A4]; refine A0 c7 ?_; simp -implicitDefEqProofs [A3, A4, e1]
   rw [show C8 (n, 5, id, nm, at_, va) = false by simp [C8, B9, B7, e1]] at c7; by_cases e4 : K5 at_ = true
   case neg =>
     have e4' : K5 at_ = false := (by simpa using e4); rw [e4'] at c4; have hR2 : 5 = R := by rw [<- hR]; simp [hv, B9, B7, C8, E8, e1, e4']
     rw [<- hR2]; simp -implicitDefEqProofs [A3, A4]; refine A0 c1 ?_; simp -implicitDefEqProofs [A3, A4]; refine A0 c2 ?_; simp -implicitDefEqProofs [A3, A4]; refine A0 c7 ?_; simp -implicitDefEqProofs [A3, A4, e1]; refine B6 c4 ?_; simp -implicitDefEqProofs [A3, A4, e1]
   rw [e4] at c4; generalize hla : D2 at_ = la at *; by_cases e5 : la = at_
   case neg =>
     have hR2 : 5 = R := by rw [<- hR]; simp [hv, B9, B7, C8, E8, e1, e4, hla, e5]
     rw [<- hR2]; simp -implicitDefEqProofs [A3, A4]; refine A0 c1 ?_; simp -implicitDefEqProofs [A3, A4]; refine A0 c2 ?_; simp -implicitDefEqProofs [A3, A4]; refine A0 c7 ?_; simp -implicitDefEqProofs [A3, A4, e1, e5]; refine B6 c4 ?_; simp -implicitDefEqProofs [A3, A4, e1, e5]; refine B6 c5 ?_; simp -implicitDefEqProofs [A3, A4, e1, e5]
   by_cases e6 : I9 va = true
   case neg =>
     have e6' : I9 va = false := (by simpa using e6); rw [e6'] at c6; have hR2 : 8 = R := by rw [<- hR]; simp [hv, B9, B7, C8, E8, e1, e4, hla, e5, e6']
     rw [<- hR2]; simp -implicitDefEqProofs [A3, A4]; refine A0 c1 ?_; simp -implicitDefEqProofs [A3, A4]; refine A0 c2 ?_; simp -implicitDefEqProofs [A3, A4]; refine A0 c7 ?_; simp -implicitDefEqProofs [A3, A4, e1, e5]; refine B6 c4 ?_; simp -implicitDefEqProofs [A3, A4, e1, e5]; refine B6 c5 ?_; simp -implicitDefEqProofs [A3, A4, e1, e5]; refine A0 c6 ?_; simp -implicitDefEqProofs [A3, A4, e1, e5]
   rw [e6] at c6; have hR2 : 0 = R := by rw [<- hR]; simp [hv, B9, B7, C8, E8, e1, e4, hla, e5, e6]
   rw [<- hR2]; simp -implicitDefEqProofs [A3, A4]; refine A0 c1 ?_; simp -implicitDefEqProofs [A3, A4]; refine A0 c2 ?_; simp -implicitDefEqProofs [A3, A4]; refine A0 c7 ?_; simp -implicitDefEqProofs [A3, A4, e1, e5]; refine B6 c4 ?_; simp -implicitDefEqProofs [A3, A4, e1, e5]; refine B6 c5 ?_; simp -implicitDefEqProofs [A3, A4, e1, e5]; refine A0 c6 ?_; simp -implicitDefEqProofs [A3, A4, e1, e5]
structure b8O (w w' : World) (b g : Nat) (cs : Array Value) : Prop where
 heap : w'.heap = ((w.setCell ⟨b, 1, none⟩ (.slice (some ⟨g, 0, none⟩) 0 cs.size)).alloc (.cells cs 5)).heap
 os : w'.os = w.os
 tape : w'.tape = w.tape
 output : w'.output = w.output
 drawn : w.drawn <= w'.drawn
set_option maxRecDepth 1000000 in
set_option maxHeartbeats 2000000 in
theorem c2A (b n : Nat) (w : World) (hbk : w.heap[b]? = some (.cells #[va b, .slice none 0 0] 175 (0, 0))) (hn : n <= 281474976710656) :
   Calls prog 242 #[va b, .int .i64 n] w fun e w' => e = .returned (.tuple #[]) /\ ∃ cs : Array Value, n <= cs.size /\ (n <= maxLen -> cs.size <= maxLen) /\ b8O w w' b w.heap.size cs := by
 obtain ⟨cs, hrun, hle, hmax⟩ := Lib.run_makeNoZero (P := prog) w.drew #[3] 66 5 Tryz.underlying66 n hn; have hw : IntKind.i64.wrap (IntKind.i64.wrap 0 + (n : Int)) = n := by
   rw [IntKind.wrap_i64, IntKind.wrap_i64]; omega
 have hcall : (callFunc 254 #[.int .i64 (IntKind.i64.wrap (IntKind.i64.wrap 0 + (n : Int)))]).run prog w.drew = .ok (.value (.slice (some ⟨w.drew.heap.size, 0, none⟩) n cs.size)) (w.drew.drew.drew.alloc (.cells cs 5)) := by
   rw [hw, run_callFunc_extern func254 (by kernel_rfl) (by kernel_rfl) (by kernel_rfl) (e := Extern.BytealgMakeNoZero.makeNoZero #[3] #[66]) (by kernel_rfl), hrun]; rfl
 have hlt : b < w.heap.size := (Array.getElem?_eq_some_iff.1 hbk).1; have c1 : w.drew.cell? ⟨b, 1, none⟩ = some (.slice none 0 0) := by
   have : w.drew.heap[b]? = _ := hbk; rw [Lib.cell_of_heap this]; rfl
 have c2 : (w.alloc (.cells cs 5)).cell? ⟨b, 1, none⟩ = some (.slice none 0 0) := by
   have : (w.alloc (.cells cs 5)).heap[b]? = _ := (Lib.alloc_old w _ b hlt).trans hbk; rw [Lib.cell_of_heap this]; rfl
 have f2 : (w.alloc (.cells cs 5)).frozen? ⟨b, 1, none⟩ = false := Lib.frozen_of_heap ((Lib.alloc_old w _ b hlt).trans hbk) 1; have hcopy : ∀ W : World, (Builtin.copy_ #[66, 66] 3 #[.slice (some ⟨w.heap.size, 0, none⟩) 0 cs.size, .slice none 0 0]).run prog W = .ok (goInt 0) W :=
   fun W => run_copy_none W 66 100 3 5 _ _ 0 cs.size 0 0 Tryz.underlying66 a7g rfl
 clear hw; have mixed : prog.follows .mixedOrders = true := by kernel_rfl
 go_enter func242, Tryz.ntmps242
 go_wp2
 go_region_o
 all_goals (go_wp2; go_end0; exact ⟨rfl, cs, hle, hmax, rfl, rfl, rfl, rfl, Nat.le_add_right w.drawn 3⟩)
set_option maxRecDepth 1000000 in
set_option maxHeartbeats 2000000 in
theorem c3L (b n : Nat) (w : World) (hbk : w.heap[b]? = some (.cells #[.pointer none, .slice none 0 0] 175 (0, 0))) (hn0 : 0 < n) (hn : n <= 281474976710656) :
   Calls prog 210 #[va b, .int .i64 n] w fun e w' => e = .returned (.tuple #[]) /\ ∃ cs : Array Value, n <= cs.size /\ (n <= maxLen -> cs.size <= maxLen) /\ b8O (w.setCell ⟨b, 0, none⟩ (va b)) w' b w.heap.size cs := by
 have hbk1 : (w.setCell ⟨b, 0, none⟩ (va b)).heap[b]? = some (.cells #[va b, .slice none 0 0] 175 (0, 0)) := by
   simp [World.setCell, Array.getElem?_modify, hbk]
 have c1 : (w.setCell ⟨b, 0, none⟩ (va b)).cell? ⟨b, 1, none⟩ = some (.slice none 0 0) := by rw [Lib.cell_of_heap hbk1]; rfl
 have hsz : (w.setCell ⟨b, 0, none⟩ (va b)).heap.size = w.heap.size := (by simp [World.setCell]); have mixed : prog.follows .mixedOrders = true := by kernel_rfl
 have hw : (IntKind.i64.wrap (IntKind.i64.wrap 0) : Int) = 0 := by rw [IntKind.wrap_i64]; decide
 have hneg : ¬ ((n : Int) < 0) := (by omega); have hpos : (0 : Int) < n := (by omega); have e132 : ∀ args w, (callFunc 206 args).run prog w = .ok (.enter 206 args) w := enters_of func206 (by kernel_rfl) rfl; have e182 : ∀ args w, (callFunc 242 args).run prog w = .ok (.enter 242 args) w := enters_of func242 (by kernel_rfl) rfl
 go_enter func210, Tryz.ntmps210
 go_wp2_with (go_at_call 206; refine (b4C b w (by rw [Lib.cell_of_heap hbk]; rfl) (by simp [World.shape?, hbk]) (Lib.frozen_of_heap hbk 0)).mono ?_; rintro e w' ⟨rfl, rfl⟩)
 have c1' : (w.setCell ⟨b, 0, none⟩ (va b)).drew.cell? ⟨b, 1, none⟩ = some (.slice none 0 0) := c1; have fin : ∀ (w' : World) (cs : Array Value), b8O (w.setCell ⟨b, 0, none⟩ (va b)).drew w' b (w.setCell ⟨b, 0, none⟩ (va b)).drew.heap.size cs -> b8O (w.setCell ⟨b, 0, none⟩ (va b)) w' b w.heap.size cs := fun w' cs h => by
   have e : (w.setCell ⟨b, 0, none⟩ (va b)).drew.heap.size = w.heap.size := hsz; rw [e] at h; exact ⟨h.heap, h.os, h.tape, h.output, Nat.le_trans (Nat.le_succ _) h.drawn⟩
 go_region_o
 all_goals go_wp2_with (go_at_call 242; refine (c2A b n (w.setCell ⟨b, 0, none⟩ (va b)).drew hbk1 hn).mono ?_; rintro e w' ⟨rfl, cs, h1, h2, h3⟩)
 all_goals first
   | (go_end0; exact ⟨rfl, cs, h1, h2, fin _ _ h3⟩)
   | trace_state
theorem c4n {b n : Nat} (h0 : 0 < n) (hn : n <= 140737488355328) :
   G1 prog 210 [.d (.raw (va b)), .d (.int .i64 n)] (bld b .nilp (.slice none 0 0) []) (fun r hs' => r = .tup [] /\ ∃ hd', hs' = bld b (.raw (va b)) hd' []) := by
 refine ⟨enters_of func210 (by kernel_rfl) rfl, fun w L vals hlok hgl hv hh _ => ?_⟩; simp only [RCs] at hv; obtain ⟨v, us, rfl, hv1, v2, us2, rfl, hv2, rfl⟩ := hv; obtain rfl : v = va b := RepV.raw_inv hv1; obtain rfl : v2 = .int .i64 n := RepV.int_inv hv2; have hb : Y4 w L (some b) 175 (.agg [.nilp, .raw (.slice none 0 0)]) (va b) := (hh (.hb (va b) 175 (.agg [.nilp, .raw (.slice none 0 0)])) (by simp)).2; obtain ⟨pv, e1, e2, e3, e4, e5⟩ := a7N (.inl rfl) hb; obtain rfl : pv = .pointer none := by
   rcases e5 with ⟨_, h⟩ | ⟨h, _⟩
   . exact h
   . cases h
 have hlt : b < w.heap.size := (Array.getElem?_eq_some_iff.1 e1).1; refine (c3L b n w e1 h0 (by omega)).mono ?_; rintro e w' ⟨rfl, cs, h1, h2, h3⟩; have hcm := h2 (by unfold maxLen; omega); have hsz0 : (w.setCell ⟨b, 0, none⟩ (va b)).heap.size = w.heap.size := (by simp [World.setCell]); have hsz1 : ((w.setCell ⟨b, 0, none⟩ (va b)).setCell ⟨b, 1, none⟩ (.slice (some ⟨w.heap.size, 0, none⟩) 0 cs.size)).heap.size = w.heap.size := (by simp [World.setCell]); have hsz : w'.heap.size = w.heap.size + 1 := by rw [h3.heap, a6Y, hsz1]
 have hold : ∀ k, k < w.heap.size -> k ≠ b -> w'.heap[k]? = w.heap[k]? := fun k hk hne => by
   rw [h3.heap, Lib.alloc_old _ _ k (by rw [hsz1]; exact hk)]; rw [Below.heap_setCell _ _ _ k hne, Below.heap_setCell _ _ _ k hne]
 have hbk : w'.heap[b]? = some (.cells #[va b, .slice (some ⟨w.heap.size, 0, none⟩) 0 cs.size] 175 (0, 0)) := by
   rw [h3.heap, Lib.alloc_old _ _ b (by rw [hsz1]; exact hlt)]; simp [World.setCell, Array.getElem?_modify, e1]
 have hgk : w'.heap[w.heap.size]? = some (.cells cs 5 (0, 0)) := by
   rw [h3.heap]
   show (((w.setCell ⟨b, 0, none⟩ (va b)).setCell ⟨b, 1, none⟩ (.slice (some ⟨w.heap.size, 0, none⟩) 0 cs.size)).heap.push (.cells cs 5))[w.heap.size]? = _
   rw [Array.getElem?_push, if_pos hsz1.symm]
 have hfree : ∀ q, ¬ L w.heap.size q := fun q hq => by have := hlok _ q hq; omega
 have hblk1 : (bld b .nilp (.slice none 0 0) []).map C9 = [some b, none] := rfl; refine ⟨_, L, none, .tup [], bld b (.raw (va b)) (.slice (some ⟨w.heap.size, 0, none⟩) 0 cs.size) [], rfl, ⟨h3.os, h3.tape, h3.output, by omega, fun k hk hn => hold k hk (fun e => hn (by rw [hblk1]; simp [e])), h3.drawn⟩,
   fun c q hq => by have := hlok c q hq; omega, fun _ _ _ _ => Iff.rfl, fun g hg => ?_, ?_, ⟨[], rfl, rfl⟩, fun x hx => ?_, rfl, _, rfl⟩
 . simp [C9, Value.ownBlock] at hg; rcases hg with rfl | rfl
   . exact ⟨by omega, .inr (by rw [hblk1]; simp)⟩
   . exact ⟨by omega, .inl (Nat.le_refl _)⟩
 . simp only [J6, C9, map_cons, map_nil, Value.ownBlock]; refine ⟨by simp, ?_, ?_, trivial⟩
   . intro g hg; simp at hg ⊢; omega
   . intro g hg; simp
 . simp only [mem_cons, not_mem_nil, or_false] at hx; rcases hx with rfl | rfl
   . exact a9z hbk e2 rfl rfl
   . refine ⟨rfl, [], 1, by rw [W6 (by decide)]; exact a7g, by simp [A8, B5], by simp, ⟨rfl, .inr ⟨w.heap.size, cs.size, cs, rfl, by rw [W6 (by decide), a6Q (by decide)]; exact hgk, Nat.zero_le _, hcm, by omega, by simp [B5]⟩⟩, fun g hg => ?_⟩; have : g = w.heap.size := (by simpa [Value.ownBlock] using hg.symm); subst this; exact ⟨rfl, fun o => ⟨fun h => absurd h (hfree o), fun h => by simp at h⟩⟩
def nT (l : List Str) (k : Nat) : Nat := (l.length - 1) + ((l.take k).map List.length).sum
theorem c4y (l : List Str) : nT l 0 = l.length - 1 := by simp [nT]
theorem b7u {l : List Str} {k : Nat} (hk : k < l.length) : nT l (k + 1) = nT l k + List.length l[k] := by
 unfold nT; rw [F6 hk, map_append, sum_append]; simp; omega
theorem a4I (c : UInt8) : ∀ l : List Str, (D9 c l).length = (l.length - 1) + (l.map List.length).sum
 | [] => rfl
 | [p] => by simp [D9]
 | p :: q :: ps => by
   have := a4I c (q :: ps); simp only [D9, length_append, length_cons, map_cons, sum_cons] at this ⊢; omega
theorem b9E (c : UInt8) (l : List Str) {k : Nat} (hk : l.length <= k) : nT l k = (D9 c l).length := by
 unfold nT; rw [ttl hk, a4I]
theorem a8K (l : List Str) : ∀ {k m : Nat}, k <= m -> nT l k <= nT l m := by
 intro k m h
 induction h with
 | refl => exact Nat.le_refl _
 | step h ih =>
   rename_i m
   by_cases hm : m < l.length
   . rw [b7u hm]; omega
   . refine Nat.le_trans ih ?_; unfold nT; rw [ttl (by omega), ttl (by omega)]; exact Nat.le_refl _
theorem b6b {c : UInt8} {l : List Str} {k : Nat} (h : k < l.length) (h0 : 0 < k) : D9 c (l.take (k + 1)) = D9 c (l.take k) ++ c :: l[k] := by
 rw [F6 h]; have : ∀ (m : List Str) (p : Str), m ≠ [] -> D9 c (m ++ [p]) = D9 c m ++ c :: p := by
   intro m p hm
   induction m with
   | nil => exact absurd rfl hm
   | cons x m ih =>
     cases m with
     | nil => simp [D9]
     | cons y m => simp only [cons_append, D9] at ih ⊢; rw [ih (by simp)]; simp
 exact this _ _ (fun e => by have := congrArg List.length e; simp only [length_take, length_nil] at this; omega)
theorem b5h (c : UInt8) (l : List Str) (m : Nat) : (D9 c (l.take m)).length <= (D9 c l).length := by
 have h1 := a8K l (Nat.le_add_right m l.length); rw [b9E c l (show l.length <= m + l.length by omega)] at h1; refine Nat.le_trans ?_ h1; rw [a4I]; unfold nT; have : (l.take m).length <= l.length := by simp; omega
 omega
theorem c2V (l : List Str) (c : UInt8) (hl : l.length < 1000000) (hj : (D9 c l).length <= 140737488355328) : Ctr prog 180 [.d (B0 l), .d (.str [c])] (.d (.str (D9 c l))) := by
 refine fv (fun i => i == 1000008 || i == 5000057 || i == 5000061 || i == 5000070 || i == 5000072 || i == 5000074) func180 (by kernel_rfl) rfl rfl rfl rfl rfl ?_; by_cases h0 : l = []
 . subst h0; simp -implicitDefEqProofs [B0, D9]
 by_cases h1 : l.length = 1
 . obtain ⟨p, rfl⟩ : ∃ p, l = [p] := length_eq_one_iff.1 h1; simp -implicitDefEqProofs [B0, D9]
 have hl0 : 0 < l.length := length_pos_iff.2 h0; have h2 : 2 <= l.length := (by omega); have h0' : ¬ (l.length : Int) = 0 := (by omega); have h1' : ¬ (l.length : Int) = 1 := (by omega); have hq : ¬ (9223372036854775807 / ((l.length : Int) - 1) <= 1) := by
   have : 2 <= 9223372036854775807 / ((l.length : Int) - 1) := (Int.le_ediv_iff_mul_le (by omega)).2 (by omega); omega
 have hqr : 9223372036854775807 / ((l.length : Int) - 1) <= 9223372036854775807 := Int.ediv_le_self _ (by decide); have hq0 : 0 <= 9223372036854775807 / ((l.length : Int) - 1) := Int.ediv_nonneg (by decide) (by omega); have hall := b9E c l (Nat.le_refl _); have hz := c4y l; simp -implicitDefEqProofs [B0, h0', h1', h0, h1, hq]; (repeat refine ai (by omega) ?_); refine F3 l.length (fun k τ => τ 0 = .d (.sl (l.map .str)) /\ τ 1 = .d (.str [c]) /\ τ 39 = .d (.sl (l.map .str)) /\ τ 40 = .d (.int .i64 l.length) /\ τ 41 = .d (.int .i64 k) /\ τ 5 = .d (.int .i64 ((nT l k : Nat) : Int)) /\ τ 1000000 = .undef /\ τ 1000001 = .undef) ⟨by simp, by simp, by simp, by simp, by simp, by simp [hz]; omega, by simp, by simp⟩ ?_; rintro k τ hk ⟨q0, q1, q39, q40, q41, q5, qa, qb⟩; have hmk := a8K l hk; by_cases hlt : k < l.length
 . have hlt' : (k : Int) < l.length := (by omega); have hs := b7u hlt; have hms := a8K l (show k + 1 <= l.length by omega); generalize hx : l[k] = x at *; have hg : ¬ (9223372036854775807 - ((nT l k : Nat) : Int) < List.length x) := (by omega); simp -implicitDefEqProofs [q0, q1, q39, q40, q41, q5, hlt, hlt', hx, hg]; (repeat refine ai (by omega) ?_); refine B8 hlt ⟨by simp [q0], by simp [q1], by simp [q39], by simp [q40], by simp, by simp [hs], by simp [qa], by simp [qb]⟩
 have hlt' : ¬ (k : Int) < l.length := (by omega); obtain rfl : k = l.length := by omega
 have hn0 : 0 < nT l l.length := by have := a8K l (Nat.zero_le l.length); omega
 rw [hall] at hn0 q5; simp -implicitDefEqProofs [q0, q1, q39, q40, q41, q5, hlt']; refine b3G 1000000 1000001 5 (by simp [qb]) (by kernel_rfl) (by simp [qa]) (by simp) (fun b => ?_); simp -implicitDefEqProofs [q0, q1, q5]; refine N1 [1000000, 1000001] 1000000 (c4n (b := b) hn0 hj) (by simp [b3Q, B5]) rfl (by simp) ?_; rintro r hs' ⟨rfl, hd, rfl⟩; obtain ⟨x0, l1, rfl⟩ : ∃ x l1, l = x :: l1 := by
   cases l with
   | nil => exact absurd rfl h0
   | cons x l1 => exact ⟨x, l1, rfl⟩
 have hm0 := b5h c (x0 :: l1) 1; simp only [take_succ_cons, take_zero, D9] at hm0; simp -implicitDefEqProofs [q0, q1, D8, E7]; (repeat refine ai (by omega) ?_); refine N1 [1000000, 1000001] 1000000 (a0x (s := []) (hd := hd) (.inr rfl) x0 (by simp only [length_nil]; omega)) (by simp) rfl (by simp) ?_; rintro r hs' ⟨hd1, rfl⟩; simp -implicitDefEqProofs [q0, q1, D8, E7]; clear hall hz hn0 q39 q40 q41 q5 hk hmk hlt hlt' hq hqr hq0 h0' h1' hl0 h0 h1; simp only [length_cons] at h2 hl; refine F3 l1.length (fun k τ => τ 1 = .d (.str [c]) /\ τ 63 = .d (.sl (l1.map .str)) /\ τ 64 = .d (.int .i64 l1.length) /\ τ 65 = .d (.int .i64 k) /\ τ 8 = .d (.raw (va b)) /\ a8I τ b (D9 c ((x0 :: l1).take (k + 1)))) ?_ ?_
 . refine ⟨by simp [q1], ?_, ?_, by simp, by simp, .raw (va b), hd1, .inr rfl, by simp, by simp [D9]⟩
   . simp; try exact ttl (by simp)
   . simp
 clear q0 q1 qa qb τ; rintro k τ hk ⟨q1, q63, q64, q65, q8, p, hd2, hp, hb, hh⟩; by_cases hlt : k < l1.length
 . have hlt' : (k : Int) < l1.length := (by omega); have hs := b6b (c := c) (l := x0 :: l1) (k := k + 1) (by simp; omega) (by omega); have hle := b5h c (x0 :: l1) (k + 1 + 1); rw [hs] at hle; simp only [getElem_cons_succ] at hs hle; generalize hx : l1[k] = x at *; rw [length_append, length_cons] at hle; have hs3 := hs; rw [take_succ_cons] at hs3; generalize D9 c ((x0 :: l1).take (k + 1)) = J at *; simp -implicitDefEqProofs [q1, q63, q64, q65, q8, hlt, hlt', hx]; refine N1 [1000000, 1000001] 1000000 (a0x (s := J) (hd := hd2) hp [c] (by simp only [length_cons, length_nil]; omega)) (by simp [hb, hh]) rfl (by simp) ?_; rintro r hs' ⟨hd3, rfl⟩; simp -implicitDefEqProofs [q1, q63, q64, q65, q8, D8, E7]; refine N1 [1000000, 1000001] 1000000 (a0x (s := J ++ [c]) (hd := hd3) (.inr rfl) x (by simp only [length_append, length_cons, length_nil]; omega)) (by simp) rfl (by simp) ?_; rintro r hs' ⟨hd4, rfl⟩; simp -implicitDefEqProofs [q1, q63, q64, q65, q8, D8, E7]; (repeat refine ai (by omega) ?_); refine B8 hlt ⟨by simp [q1], by simp [q63], by simp [q64], by simp, by simp [q8], .raw (va b), hd4, .inr rfl, by simp, by simp [hs3]⟩
 . have hlt' : ¬ (k : Int) < l1.length := (by omega); rw [ttl (by simp; omega)] at hh; simp -implicitDefEqProofs [q1, q63, q64, q65, q8, hlt']; refine N1 [1000000, 1000001] 1000000 (a4Q (b := b) (s := D9 c (x0 :: l1)) (hd := hd2) hp) (by simp [hb, hh]) rfl (by simp) ?_; rintro r hs' ⟨rfl, rfl⟩; simp -implicitDefEqProofs [D8, E7]
theorem a7H : b1q prog 0 = some (.sl [.str [], .str [99, 114, 101, 97, 116, 101], .str [114, 101, 109, 111, 118, 101], .str [114, 101, 110, 97, 109, 101], .str [112, 117, 116], .str [100, 114, 111, 112]]) := by kernel_rfl
theorem a7F (l : List Str) (hl : l.length < 1000000) (hj : (D9 32 l).length <= 140737488355328) : Ctr prog 125 [.d (B0 l)] (.d (.str (D9 32 l))) := by
 refine fv (fun _ => false) func125 (by kernel_rfl) rfl rfl rfl rfl rfl ?_; have c1 := c2V l 32 hl hj; simp -implicitDefEqProofs; refine A0 c1 ?_; simp -implicitDefEqProofs
theorem c7C (a b i e : Str) : D9 32 [D9 32 [a, b, i], e] = D9 32 [a, b, i, e] := by simp [D9]
theorem c7A (a b i e g : Str) : D9 32 [D9 32 [a, b, i], e, g] = D9 32 [a, b, i, e, g] := by simp [D9]
theorem b1j {c : Chg} (h : I6 c ≠ 0) : H0 c = ([], I6 c) := by rw [H0, if_neg h]
theorem a5e {c : Chg} (h : I6 c = 0) : H0 c = (a2z c, 0) := by rw [H0, if_pos h]
theorem b6U (x : Int) : (opW x).length <= 6 := by unfold opW; (repeat' split) <;> decide
theorem b7h (c : Chg) (hc : M8 c) : Ctr prog 76 [.d (A3 c)] (.tup [.d (.str (H0 c).1), .d (.int .i64 (H0 c).2)]) := by
 refine G6 (rv := .tmp 2) (rs := [.tmp 3]) (r := .d (.str (H0 c).1)) (ys := [.d (.int .i64 (H0 c).2)]) (fun i => false) (by kernel_rfl) func76 (by kernel_rfl) rfl rfl (by simp) (nbl rfl) (by kernel_rfl) rfl rfl ?_; have c1 := a8Q c hc; by_cases h0 : I6 c = 0
 case neg =>
   rw [b1j h0]; generalize I6 c = E at *; simp only [A4, A3] at c1; simp -implicitDefEqProofs [A3, A4]; refine A0 c1 ?_; simp -implicitDefEqProofs [h0]
 have ho := U7.1 h0; rw [a5e h0]; rw [h0] at c1; obtain ⟨f1, f2, f3, f4⟩ := hc; obtain ⟨n, op, id, nm, at_, va⟩ := c; simp only at f1 f2 f3 f4; have c2 := a4Z n; have hf : (G8 n).length = 22 := a1L ho.num; have hw := b6U op; have e1 := a1l nm; have e2 := a1l at_; have e3 := a1l va; have c6 := a7A nm (by omega); have c7 := a7A at_ (by omega); have c8 := a7A va (by omega); have o1 : 1 <= op := ho.op1; have o5 : op <= 5 := ho.op5; have c3 := a7F [opW op, G8 n, id] (by simp) (by simp only [D9, length_append, length_cons]; omega); have c4 := a7F [D9 32 [opW op, G8 n, id], Q3 nm] (by simp) (by simp only [D9, length_append, length_cons]; omega); have c5 := a7F [D9 32 [opW op, G8 n, id], Q3 at_, Q3 va] (by simp) (by simp only [D9, length_append, length_cons]; omega); rw [c7C] at c4; rw [c7A] at c5; simp only [B0, map_cons, map_nil] at c3 c4 c5; have hl : a2z (n, op, id, nm, at_, va) = D9 32 (a1i (n, op, id, nm, at_, va)) := rfl; rw [hl]; simp only [a1i]; generalize G8 n = F at *; simp only [A4, A3] at c1 c2; have hr3 : ([0, 1, 2] : List Nat) = List.range 3 := (by decide); have hr2 : ([0, 1] : List Nat) = List.range 2 := (by decide); have hop : op = 1 \/ op = 2 \/ op = 3 \/ op = 4 \/ op = 5 := (by omega); rcases hop with rfl | rfl | rfl | rfl | rfl
 . rw [show opW 1 = [99, 114, 101, 97, 116, 101] from rfl] at c3 c4 c5 ⊢; rw [show B9 1 = true from rfl, show B7 1 = false from rfl]; rw [if_pos rfl]; simp -implicitDefEqProofs [A3, A4]; refine A0 c1 ?_; simp -implicitDefEqProofs [a7H]; refine B6 c2 ?_; simp -implicitDefEqProofs; refine ⟨by decide, B6 c3 ?_⟩; simp -implicitDefEqProofs; refine A0 c6 ?_; simp -implicitDefEqProofs; refine ⟨by decide, A0 c4 ?_⟩; simp -implicitDefEqProofs
 . rw [show opW 2 = [114, 101, 109, 111, 118, 101] from rfl] at c3 c4 c5 ⊢; rw [show B9 2 = false from rfl, show B7 2 = false from rfl]; rw [if_neg (by simp), if_neg (by simp)]; simp -implicitDefEqProofs [A3, A4]; refine A0 c1 ?_; simp -implicitDefEqProofs [a7H]; refine B6 c2 ?_; simp -implicitDefEqProofs; refine ⟨by decide, B6 c3 ?_⟩; simp -implicitDefEqProofs
 . rw [show opW 3 = [114, 101, 110, 97, 109, 101] from rfl] at c3 c4 c5 ⊢; rw [show B9 3 = true from rfl, show B7 3 = false from rfl]; rw [if_pos rfl]; simp -implicitDefEqProofs [A3, A4]; refine A0 c1 ?_; simp -implicitDefEqProofs [a7H]; refine B6 c2 ?_; simp -implicitDefEqProofs; refine ⟨by decide, B6 c3 ?_⟩; simp -implicitDefEqProofs; refine A0 c6 ?_; simp -implicitDefEqProofs; refine ⟨by decide, A0 c4 ?_⟩; simp -implicitDefEqProofs
 . rw [show opW 4 = [112, 117, 116] from rfl] at c3 c4 c5 ⊢; rw [show B9 4 = false from rfl, show B7 4 = true from rfl]; rw [if_neg (by simp), if_pos rfl]; simp -implicitDefEqProofs [A3, A4]; refine A0 c1 ?_; simp -implicitDefEqProofs [a7H]; refine B6 c2 ?_; simp -implicitDefEqProofs; refine ⟨by decide, B6 c3 ?_⟩; simp -implicitDefEqProofs; refine B6 c7 ?_; simp -implicitDefEqProofs; refine B6 c8 ?_; simp -implicitDefEqProofs; refine ⟨by decide, B6 c5 ?_⟩; simp -implicitDefEqProofs
 . rw [show opW 5 = [100, 114, 111, 112] from rfl] at c3 c4 c5 ⊢; rw [show B9 5 = false from rfl, show B7 5 = true from rfl]; rw [if_neg (by simp), if_pos rfl]; simp -implicitDefEqProofs [A3, A4]; refine A0 c1 ?_; simp -implicitDefEqProofs [a7H]; refine B6 c2 ?_; simp -implicitDefEqProofs; refine ⟨by decide, B6 c3 ?_⟩; simp -implicitDefEqProofs; refine B6 c7 ?_; simp -implicitDefEqProofs; refine B6 c8 ?_; simp -implicitDefEqProofs; refine ⟨by decide, B6 c5 ?_⟩; simp -implicitDefEqProofs
theorem b5A (c : Chg) (hc : M8 c) : Ctr prog 186 [.d (A3 c)] (.tup [.d (.str (H0 c).1), .d (.int .i64 (H0 c).2)]) := by
 refine G6 (rv := .tmp 2) (rs := [.tmp 3]) (r := .d (.str (H0 c).1)) (ys := [.d (.int .i64 (H0 c).2)]) (fun i => false) (by kernel_rfl) func186 (by kernel_rfl) rfl rfl (by simp) (nbl rfl) (by kernel_rfl) rfl rfl ?_; have c1 := b4x c hc; by_cases h0 : I6 c = 0
 case neg =>
   rw [b1j h0]; generalize I6 c = E at *; simp only [A4, A3] at c1; simp -implicitDefEqProofs [A3, A4]; refine A0 c1 ?_; simp -implicitDefEqProofs [h0]
 have ho := U7.1 h0; rw [a5e h0]; rw [h0] at c1; obtain ⟨f1, f2, f3, f4⟩ := hc; obtain ⟨n, op, id, nm, at_, va⟩ := c; simp only at f1 f2 f3 f4; have c2 := b8B n; have hf : (G8 n).length = 22 := a1L ho.num; have hw := b6U op; have e1 := a1l nm; have e2 := a1l at_; have e3 := a1l va; have c6 := a5R nm (by omega); have c7 := a5R at_ (by omega); have c8 := a5R va (by omega); have o1 : 1 <= op := ho.op1; have o5 : op <= 5 := ho.op5; have c3 := c4Z op o1 o5; have hl : a2z (n, op, id, nm, at_, va) = D9 32 (a1i (n, op, id, nm, at_, va)) := rfl; rw [hl]; simp only [a1i]; generalize G8 n = F at *; simp only [A4, A3] at c1 c2; have hop : op = 1 \/ op = 2 \/ op = 3 \/ op = 4 \/ op = 5 := (by omega); rcases hop with rfl | rfl | rfl | rfl | rfl
 . generalize hW : opW 1 = W at *; rw [show B9 1 = true from rfl, show B7 1 = false from rfl]; rw [if_pos rfl]; simp only [D9]; simp -implicitDefEqProofs [A3, A4]; refine A0 c1 ?_; simp -implicitDefEqProofs; refine B6 c3 ?_; simp -implicitDefEqProofs; (repeat refine ai (by omega) ?_); refine B6 c2 ?_; simp -implicitDefEqProofs; (repeat refine ai (by omega) ?_); refine A0 c6 ?_; simp -implicitDefEqProofs
   all_goals omega
 . generalize hW : opW 2 = W at *; rw [show B9 2 = false from rfl, show B7 2 = false from rfl]; rw [if_neg (by simp), if_neg (by simp)]; simp only [D9]; simp -implicitDefEqProofs [A3, A4]; refine A0 c1 ?_; simp -implicitDefEqProofs; refine B6 c3 ?_; simp -implicitDefEqProofs; (repeat refine ai (by omega) ?_); refine B6 c2 ?_; simp -implicitDefEqProofs; repeat refine ai (by omega) ?_
   all_goals omega
 . generalize hW : opW 3 = W at *; rw [show B9 3 = true from rfl, show B7 3 = false from rfl]; rw [if_pos rfl]; simp only [D9]; simp -implicitDefEqProofs [A3, A4]; refine A0 c1 ?_; simp -implicitDefEqProofs; refine B6 c3 ?_; simp -implicitDefEqProofs; (repeat refine ai (by omega) ?_); refine B6 c2 ?_; simp -implicitDefEqProofs; (repeat refine ai (by omega) ?_); refine A0 c6 ?_; simp -implicitDefEqProofs
   all_goals omega
 . generalize hW : opW 4 = W at *; rw [show B9 4 = false from rfl, show B7 4 = true from rfl]; rw [if_neg (by simp), if_pos rfl]; simp only [D9]; simp -implicitDefEqProofs [A3, A4]; refine A0 c1 ?_; simp -implicitDefEqProofs; refine B6 c3 ?_; simp -implicitDefEqProofs; (repeat refine ai (by omega) ?_); refine B6 c2 ?_; simp -implicitDefEqProofs; (repeat refine ai (by omega) ?_); refine B6 c7 ?_; simp -implicitDefEqProofs; (repeat refine ai (by omega) ?_); refine B6 c8 ?_; simp -implicitDefEqProofs
   all_goals omega
 . generalize hW : opW 5 = W at *; rw [show B9 5 = false from rfl, show B7 5 = true from rfl]; rw [if_neg (by simp), if_pos rfl]; simp only [D9]; simp -implicitDefEqProofs [A3, A4]; refine A0 c1 ?_; simp -implicitDefEqProofs; refine B6 c3 ?_; simp -implicitDefEqProofs; (repeat refine ai (by omega) ?_); refine B6 c2 ?_; simp -implicitDefEqProofs; (repeat refine ai (by omega) ?_); refine B6 c7 ?_; simp -implicitDefEqProofs; (repeat refine ai (by omega) ?_); refine B6 c8 ?_; simp -implicitDefEqProofs
   all_goals omega
structure d3u (l : List Chg) : Prop where
 len : l.length < 900000
 all : ∀ c ∈ l, M8 c
end Go.Proofs.Tz
namespace Go.Proofs.Tz
open Go.Vw
abbrev Sl := Option Addr × Nat × Nat
def rw2 (x : Str × Sl) : D := .agg [.str x.1, .raw (.slice x.2.1 x.2.2.1 x.2.2.2)]
def W3 {α : Type} (p : α -> Bool) : Nat -> List α -> Int
 | _, [] => -1
 | k, x :: l => if p x then k else W3 p (k + 1) l
theorem c1v {α : Type} {p : α -> Bool} {l : List α} {k : Nat} (h : k < l.length) : W3 p k (l.drop k) = if p l[k] then (k : Int) else W3 p (k + 1) (l.drop (k + 1)) := by
 rw [drop_eq_getElem_cons h, W3]
theorem b3f (g : FuncId) (cs : List D) (hcs : (cs.all fun c => !c.isAgg) = true) (p : Str × Sl -> Bool) (l : List (Str × Sl)) (hl : l.length < 1000000) (hp : ∀ a ∈ l, Ctr prog g ([.d (rw2 a)] ++ cs.map .d) (.d (.bool (p a)))) :
   Ctr prog 140 [.d (.sl (l.map rw2)), .d (.clo g cs)] (.d (.int .i64 (W3 p 0 l))) := by
 refine fv (fun _ => false) func140 (by kernel_rfl) rfl rfl rfl rfl rfl ?_; simp -implicitDefEqProofs; refine F3 l.length (fun k τ => τ 0 = .d (.sl (l.map rw2)) /\ τ 1 = .d (.clo g cs) /\ τ 7 = .d (.int .i64 l.length) /\ τ 8 = .d (.int .i64 k) /\ W3 p 0 l = W3 p k (l.drop k)) (by simp) ?_; rintro k τ hk ⟨h0, h1, h7, h8, hi⟩; by_cases hlt : k < l.length
 . rw [c1v hlt] at hi; have hf := hp _ (gmm hlt); simp only [rw2, cons_append, nil_append] at hf; simp -implicitDefEqProofs [h0, h1, h7, h8, rw2, hlt]; refine ⟨by simpa using hcs, A0 hf ?_⟩; by_cases he : p l[k] = true
   . simp -implicitDefEqProofs [h0, h1, h7, h8, rw2, hlt, he]; rw [hi, if_pos he]
   . simp -implicitDefEqProofs [h0, h1, h7, h8, rw2, hlt, he]; refine ⟨by omega, B8 hlt ⟨by simp [h0, rw2], by simp [h1], by simp [h7], by simp, ?_⟩⟩; rw [hi, if_neg he]
 . simp -implicitDefEqProofs [h0, h1, h7, h8, hlt]; rw [hi, drop_eq_nil_of_le (by omega)]; simp -implicitDefEqProofs [W3]
theorem a9S {α : Type} (p : α -> Bool) : ∀ (l : List α) (k : Nat), W3 p k l = -1 -> l.filter (fun x => !p x) = l
 | [], k, _ => rfl
 | x :: l, k, h => by
   rw [W3] at h; by_cases hx : p x = true
   . rw [if_pos hx] at h; omega
   . rw [if_neg hx] at h; simp -implicitDefEqProofs [hx, a9S p l (k + 1) h]
theorem a6S {α : Type} (p : α -> Bool) : ∀ (l : List α) (k : Nat), W3 p k l ≠ -1 -> ∃ i : Nat, W3 p k l = ((k + i : Nat) : Int) /\ i < l.length /\ (l.take i).filter (fun x => !p x) = l.take i /\ (l.take (i + 1)).filter (fun x => !p x) = l.take i
 | [], k, h => absurd rfl h
 | x :: l, k, h => by
   rw [W3] at h ⊢; by_cases hx : p x = true
   . rw [if_pos hx]; exact ⟨0, by simp, by simp, by simp, by simp [hx]⟩
   . rw [if_neg hx] at h ⊢; obtain ⟨i, h1, h2, h3, h4⟩ := a6S p l (k + 1) h; refine ⟨i + 1, by rw [h1]; omega, by simpa using h2, ?_, ?_⟩
     . simp -implicitDefEqProofs [hx, h3]
     . rw [take_succ_cons, filter_cons, if_pos (by simp [hx]), h4, take_succ_cons]
theorem b9f (g : FuncId) (cs : List D) (hcs : (cs.all fun c => !c.isAgg) = true) (p : Str × Sl -> Bool) (l : List (Str × Sl)) (hl : l.length < 1000000) (hp : ∀ a ∈ l, Ctr prog g ([.d (rw2 a)] ++ cs.map .d) (.d (.bool (p a)))) :
   Ctr prog 142 [.own true 72 (l.map rw2), .d (.clo g cs)] (.own true 72 ((l.filter fun x => !p x).map rw2)) := by
 refine fv (fun i => i == 2000010) func142 (by kernel_rfl) rfl rfl rfl rfl rfl ?_; simp -implicitDefEqProofs; refine ⟨_, rfl, b3f g cs hcs p l hl hp, ?_⟩; by_cases hn : W3 p 0 l = -1
 . simp -implicitDefEqProofs [hn, a9S p l 0 hn]
 . obtain ⟨i, h1, h2, h3, h4⟩ := a6S p l 0 hn; simp only [Nat.zero_add] at h1; have e1 : ¬ ((i : Int) = -1) := (by omega); simp -implicitDefEqProofs [h1, e1]; refine ⟨by omega, ?_⟩; refine a2s (fun n τ => ∃ (j q : Nat) (m : List (Str × Sl)), n = l.length - j /\ j <= l.length /\ τ 0 = .own true 72 (m.map rw2) /\ τ 1 = .d (.clo g cs) /\ τ 5 = .d (.int .i64 q) /\ τ 6 = .d (.int .i64 j) /\ m.length = l.length /\ q < j /\ m.take q = (l.take j).filter (fun x => !p x) /\ m.drop j = l.drop j)
     (l.length - (i + 1)) ⟨i + 1, i, l, rfl, by omega, by simp, by simp, by simp, by simp, rfl, by omega, h4.symm, rfl⟩ ?_
   rintro n τ ⟨j, q, m, rfl, hj, g0, g1, g5, g6, hm, hq, ht, hd⟩; by_cases hlt : j < l.length
   . have hmj : m[j]'(by omega) = l[j] := by
       have := congrArg (fun x : List (Str × Sl) => x[0]?) hd; simpa [hlt, hm] using this
     have hf := hp _ (gmm hlt); simp only [rw2, cons_append, nil_append] at hf; have hlt' : (j : Int) < l.length := (by omega); have hf' := hf; simp -implicitDefEqProofs [g0, g1, g5, g6, hm, hlt', hlt, rw2, hmj]; refine ⟨by simpa using hcs, A0 hf ?_⟩; by_cases he : p l[j] = true
     . simp -implicitDefEqProofs [g0, g1, g5, g6, hm, hlt', hlt, rw2, hmj, he]; refine ⟨by omega, _, ?_, j + 1, rfl, by omega, q, m, rfl, rfl, by omega, hm, by omega, ?_, ?_⟩
       . omega
       . rw [F6 hlt, filter_append, ht]; simp [he]
       . rw [<- drop_drop, hd, drop_drop]
     . have hq2 : q < m.length := (by omega); have hqq : m[q]? = some m[q] := getElem?_eq_getElem hq2; simp -implicitDefEqProofs [g0, g1, g5, g6, hm, hlt', hlt, rw2, hmj, he, hqq]; refine ⟨by omega, by omega, by omega, _, ?_, j + 1, rfl, by omega, q + 1, m.set q l[j], ?_, by simp, by simp, by simpa using hm, by omega, ?_, ?_⟩
       . omega
       . rw [map_set]; rfl
       . rw [take_set, F6 hq2, set_append_right _ _ (by simp; omega)]; simp only [length_take, Nat.min_eq_left (Nat.le_of_lt hq2), Nat.sub_self, set_cons_zero]; rw [F6 hlt, filter_append, ht]; simp [he]
       . rw [drop_set_of_lt (by omega), <- drop_drop, hd, drop_drop]
   . simp -implicitDefEqProofs [g0, g1, g5, g6, hm, hlt]; have hjl : j = l.length := (by omega); subst hjl; refine ⟨by omega, by omega, ?_⟩; rw [take_append_of_le_length (by simp; omega), take_take, Nat.min_self, <- map_take, ht, take_length]
end Go.Proofs.Tz
/-
  DERIVED: THE SHELF's CONTRACTS AT THIS DUMP, IN PLAIN WORDS (tools/lay-plain.mjs out of 'LcShP.lean', which tools/lay-shelf.mjs wrote): THE SAME DECLARATIONS UNDER THE SAME NAMES: 'import', 'namespace', 'open', 'def', 'theorem' AND NOTHING ELSE: no command of the shelf's: FOR A HAND-IN. Each laying: the table of numbers ('.._ren') and one theorem, a field a fact of the dump's own or the kernel's comparison; each contract: ONE APPLICATION.
-/
namespace Go.Proofs
open Go.Shelf
def Tryz.layS_ren : Go.Shelf.Ren := ⟨fun | 6 => 62 | 8 => 114 | 9 => 113 | 19 => 159 | 20 => 160 | 21 => 150 | 22 => 151 | 23 => 152 | 24 => 153 | 25 => 154 | 26 => 155 | 27 => 156 | 28 => 157 | 29 => 158 | 36 => 198 | 31 => 199 | 32 => 200 | 37 => 201 | 38 => 202 | 39 => 203 | 41 => 231 | n => n, fun | 27 => 43 | 29 => 9 | 3 => 3 | 32 => 132 | 26 => 43 | 0 => 0 | 44 => 166 | 46 => 168 | 4 => 4 | 36 => 158 | 35 => 157 | 41 => 163 | 5 => 5 | 9 => 9 | 53 => 197 | 57 => 201 | 63 => 218 | 64 => 219 | n => n, fun | n => n⟩
theorem Tryz.layS : Go.Proofs.SlLaysM.n6 prog Tryz.layS_ren := {
 mixed := by kernel_rfl
 f6 := ⟨Tryz.f62.name, by decide, func62.trans (congrArg some (by kernel_rfl))⟩
 f8 := func114.trans (congrArg some (by kernel_rfl))
 f9 := ⟨Tryz.f113.name, by decide, func113.trans (congrArg some (by kernel_rfl))⟩
 f19 := func159.trans (congrArg some (by kernel_rfl))
 f20 := func160.trans (congrArg some (by kernel_rfl))
 f21 := ⟨Tryz.f150.name, by decide, func150.trans (congrArg some (by kernel_rfl))⟩
 f22 := ⟨Tryz.f151.name, by decide, func151.trans (congrArg some (by kernel_rfl))⟩
 f23 := ⟨Tryz.f152.name, by decide, func152.trans (congrArg some (by kernel_rfl))⟩
 f24 := ⟨Tryz.f153.name, by decide, func153.trans (congrArg some (by kernel_rfl))⟩
 f25 := ⟨Tryz.f154.name, by decide, func154.trans (congrArg some (by kernel_rfl))⟩
 f26 := ⟨Tryz.f155.name, by decide, func155.trans (congrArg some (by kernel_rfl))⟩
 f27 := ⟨Tryz.f156.name, by decide, func156.trans (congrArg some (by kernel_rfl))⟩
 f28 := ⟨Tryz.f157.name, by decide, func157.trans (congrArg some (by kernel_rfl))⟩
 f29 := ⟨Tryz.f158.name, by decide, func158.trans (congrArg some (by kernel_rfl))⟩
 f31 := func199.trans (congrArg some (by kernel_rfl))
 f32 := func200.trans (congrArg some (by kernel_rfl))
 f36 := ⟨Tryz.f198.name, by decide, func198.trans (congrArg some (by kernel_rfl))⟩
 f37 := ⟨Tryz.f201.name, by decide, func201.trans (congrArg some (by kernel_rfl))⟩
 f38 := ⟨Tryz.f202.name, by decide, func202.trans (congrArg some (by kernel_rfl))⟩
 f39 := ⟨Tryz.f203.name, by decide, func203.trans (congrArg some (by kernel_rfl))⟩
 f41 := ⟨Tryz.f231.name, by decide, func231.trans (congrArg some (by kernel_rfl))⟩
 t0 := Tryz.underlying0
 a0 := Tryz.isAgg0
 z0 := Tryz.sizeOf0
 v0 := Tryz.zeroValue0
 t3 := Tryz.underlying3
 a3 := Tryz.isAgg3
 z3 := Tryz.sizeOf3
 v3 := Tryz.zeroValue3
 t4 := Tryz.underlying4
 a4 := Tryz.isAgg4
 z4 := Tryz.sizeOf4
 v4 := Tryz.zeroValue4
 t5 := Tryz.underlying5
 a5 := Tryz.isAgg5
 z5 := Tryz.sizeOf5
 v5 := Tryz.zeroValue5
 t9 := Tryz.underlying9
 a9 := Tryz.isAgg9
 z9 := Tryz.sizeOf9
 v9 := Tryz.zeroValue9
 t26 := Tryz.underlying43
 a26 := Tryz.isAgg43
 z26 := Tryz.sizeOf43
 v26 := Tryz.zeroValue43
 t27 := Tryz.underlying43
 a27 := Tryz.isAgg43
 z27 := Tryz.sizeOf43
 v27 := Tryz.zeroValue43
 t29 := Tryz.underlying9
 a29 := Tryz.isAgg9
 z29 := Tryz.sizeOf9
 v29 := Tryz.zeroValue9
 t32 := Tryz.underlying132
 a32 := Tryz.isAgg132
 z32 := Tryz.sizeOf132
 v32 := Tryz.zeroValue132
 t35 := Tryz.underlying157
 a35 := Tryz.isAgg157
 z35 := Tryz.sizeOf157
 v35 := Tryz.zeroValue157
 t36 := Tryz.underlying158
 a36 := Tryz.isAgg158
 z36 := Tryz.sizeOf158
 v36 := Tryz.zeroValue158
 t41 := Tryz.underlying163
 a41 := Tryz.isAgg163
 z41 := Tryz.sizeOf163
 v41 := Tryz.zeroValue163
 t44 := Tryz.underlying166
 a44 := Tryz.isAgg166
 z44 := Tryz.sizeOf166
 v44 := Tryz.zeroValue166
 t46 := Tryz.underlying168
 a46 := Tryz.isAgg168
 z46 := Tryz.sizeOf168
 v46 := Tryz.zeroValue168
 t53 := Tryz.underlying197
 a53 := Tryz.isAgg197
 z53 := Tryz.sizeOf197
 v53 := Tryz.zeroValue197
 t57 := Tryz.underlying201
 a57 := Tryz.isAgg201
 z57 := Tryz.sizeOf201
 v57 := Tryz.zeroValue201
 t63 := Tryz.underlying218
 a63 := Tryz.isAgg218
 z63 := Tryz.sizeOf218
 v63 := Tryz.zeroValue218
 t64 := Tryz.underlying219
 a64 := Tryz.isAgg219
 z64 := Tryz.sizeOf219
 v64 := Tryz.zeroValue219 }
def Tryz.layF_ren : Go.Shelf.Ren := ⟨fun | 6 => 145 | 15 => 114 | 14 => 189 | 28 => 159 | 29 => 160 | 20 => 218 | 21 => 219 | 22 => 220 | 23 => 221 | 24 => 222 | 25 => 223 | 26 => 224 | 27 => 225 | 46 => 245 | 47 => 199 | 48 => 200 | 49 => 246 | 50 => 247 | 57 => 255 | n => n, fun | 22 => 46 | 24 => 72 | 25 => 153 | 3 => 3 | 39 => 132 | 0 => 0 | 53 => 166 | 55 => 168 | 4 => 4 | 46 => 158 | 45 => 157 | 50 => 163 | 5 => 5 | 9 => 9 | 66 => 197 | 70 => 201 | 76 => 218 | 77 => 219 | n => n, fun | n => n⟩
theorem Tryz.layF : Go.Proofs.SlLaysF0.n6 prog Tryz.layF_ren := {
 mixed := by kernel_rfl
 f6 := ⟨Tryz.f145.name, by decide, func145.trans (congrArg some (by kernel_rfl))⟩
 f14 := ⟨Tryz.f189.name, by decide, func189.trans (congrArg some (by kernel_rfl))⟩
 f15 := func114.trans (congrArg some (by kernel_rfl))
 f20 := ⟨Tryz.f218.name, by decide, func218.trans (congrArg some (by kernel_rfl))⟩
 f21 := ⟨Tryz.f219.name, by decide, func219.trans (congrArg some (by kernel_rfl))⟩
 f22 := ⟨Tryz.f220.name, by decide, func220.trans (congrArg some (by kernel_rfl))⟩
 f23 := ⟨Tryz.f221.name, by decide, func221.trans (congrArg some (by kernel_rfl))⟩
 f24 := ⟨Tryz.f222.name, by decide, func222.trans (congrArg some (by kernel_rfl))⟩
 f25 := ⟨Tryz.f223.name, by decide, func223.trans (congrArg some (by kernel_rfl))⟩
 f26 := ⟨Tryz.f224.name, by decide, func224.trans (congrArg some (by kernel_rfl))⟩
 f27 := ⟨Tryz.f225.name, by decide, func225.trans (congrArg some (by kernel_rfl))⟩
 f28 := func159.trans (congrArg some (by kernel_rfl))
 f29 := func160.trans (congrArg some (by kernel_rfl))
 f46 := ⟨Tryz.f245.name, by decide, func245.trans (congrArg some (by kernel_rfl))⟩
 f47 := func199.trans (congrArg some (by kernel_rfl))
 f48 := func200.trans (congrArg some (by kernel_rfl))
 f49 := ⟨Tryz.f246.name, by decide, func246.trans (congrArg some (by kernel_rfl))⟩
 f50 := ⟨Tryz.f247.name, by decide, func247.trans (congrArg some (by kernel_rfl))⟩
 f57 := ⟨Tryz.f255.name, by decide, func255.trans (congrArg some (by kernel_rfl))⟩
 t0 := Tryz.underlying0
 a0 := Tryz.isAgg0
 z0 := Tryz.sizeOf0
 v0 := Tryz.zeroValue0
 t3 := Tryz.underlying3
 a3 := Tryz.isAgg3
 z3 := Tryz.sizeOf3
 v3 := Tryz.zeroValue3
 t4 := Tryz.underlying4
 a4 := Tryz.isAgg4
 z4 := Tryz.sizeOf4
 v4 := Tryz.zeroValue4
 t5 := Tryz.underlying5
 a5 := Tryz.isAgg5
 z5 := Tryz.sizeOf5
 v5 := Tryz.zeroValue5
 t9 := Tryz.underlying9
 a9 := Tryz.isAgg9
 z9 := Tryz.sizeOf9
 v9 := Tryz.zeroValue9
 t22 := Tryz.underlying46
 a22 := Tryz.isAgg46
 z22 := Tryz.sizeOf46
 v22 := Tryz.zeroValue46
 t25 := Tryz.underlying153
 a25 := Tryz.isAgg153
 z25 := Tryz.sizeOf153
 v25 := Tryz.zeroValue153
 t39 := Tryz.underlying132
 a39 := Tryz.isAgg132
 z39 := Tryz.sizeOf132
 v39 := Tryz.zeroValue132
 t45 := Tryz.underlying157
 a45 := Tryz.isAgg157
 z45 := Tryz.sizeOf157
 v45 := Tryz.zeroValue157
 t46 := Tryz.underlying158
 a46 := Tryz.isAgg158
 z46 := Tryz.sizeOf158
 v46 := Tryz.zeroValue158
 t50 := Tryz.underlying163
 a50 := Tryz.isAgg163
 z50 := Tryz.sizeOf163
 v50 := Tryz.zeroValue163
 t53 := Tryz.underlying166
 a53 := Tryz.isAgg166
 z53 := Tryz.sizeOf166
 v53 := Tryz.zeroValue166
 t55 := Tryz.underlying168
 a55 := Tryz.isAgg168
 z55 := Tryz.sizeOf168
 v55 := Tryz.zeroValue168
 t66 := Tryz.underlying197
 a66 := Tryz.isAgg197
 z66 := Tryz.sizeOf197
 v66 := Tryz.zeroValue197
 t70 := Tryz.underlying201
 a70 := Tryz.isAgg201
 z70 := Tryz.sizeOf201
 v70 := Tryz.zeroValue201
 t76 := Tryz.underlying218
 a76 := Tryz.isAgg218
 z76 := Tryz.sizeOf218
 v76 := Tryz.zeroValue218
 t77 := Tryz.underlying219
 a77 := Tryz.isAgg219
 z77 := Tryz.sizeOf219
 v77 := Tryz.zeroValue219 }
def Tryz.layT_ren : Go.Shelf.Ren := ⟨fun | 6 => 162 | 15 => 114 | 14 => 205 | 28 => 159 | 29 => 160 | 20 => 232 | 21 => 233 | 22 => 234 | 23 => 235 | 24 => 236 | 25 => 237 | 26 => 238 | 27 => 239 | 46 => 251 | 47 => 199 | 48 => 200 | 49 => 252 | 50 => 253 | 57 => 259 | n => n, fun | 22 => 43 | 24 => 9 | 25 => 106 | 3 => 3 | 39 => 132 | 0 => 0 | 53 => 166 | 55 => 168 | 4 => 4 | 46 => 158 | 45 => 157 | 50 => 163 | 5 => 5 | 9 => 9 | 66 => 197 | 70 => 201 | 76 => 218 | 77 => 219 | n => n, fun | n => n⟩
theorem Tryz.layT : Go.Proofs.SlLaysF.n6 prog Tryz.layT_ren := {
 mixed := by kernel_rfl
 f6 := ⟨Tryz.f162.name, by decide, func162.trans (congrArg some (by kernel_rfl))⟩
 f14 := ⟨Tryz.f205.name, by decide, func205.trans (congrArg some (by kernel_rfl))⟩
 f15 := func114.trans (congrArg some (by kernel_rfl))
 f20 := ⟨Tryz.f232.name, by decide, func232.trans (congrArg some (by kernel_rfl))⟩
 f21 := ⟨Tryz.f233.name, by decide, func233.trans (congrArg some (by kernel_rfl))⟩
 f22 := ⟨Tryz.f234.name, by decide, func234.trans (congrArg some (by kernel_rfl))⟩
 f23 := ⟨Tryz.f235.name, by decide, func235.trans (congrArg some (by kernel_rfl))⟩
 f24 := ⟨Tryz.f236.name, by decide, func236.trans (congrArg some (by kernel_rfl))⟩
 f25 := ⟨Tryz.f237.name, by decide, func237.trans (congrArg some (by kernel_rfl))⟩
 f26 := ⟨Tryz.f238.name, by decide, func238.trans (congrArg some (by kernel_rfl))⟩
 f27 := ⟨Tryz.f239.name, by decide, func239.trans (congrArg some (by kernel_rfl))⟩
 f28 := func159.trans (congrArg some (by kernel_rfl))
 f29 := func160.trans (congrArg some (by kernel_rfl))
 f46 := ⟨Tryz.f251.name, by decide, func251.trans (congrArg some (by kernel_rfl))⟩
 f47 := func199.trans (congrArg some (by kernel_rfl))
 f48 := func200.trans (congrArg some (by kernel_rfl))
 f49 := ⟨Tryz.f252.name, by decide, func252.trans (congrArg some (by kernel_rfl))⟩
 f50 := ⟨Tryz.f253.name, by decide, func253.trans (congrArg some (by kernel_rfl))⟩
 f57 := ⟨Tryz.f259.name, by decide, func259.trans (congrArg some (by kernel_rfl))⟩
 t0 := Tryz.underlying0
 a0 := Tryz.isAgg0
 z0 := Tryz.sizeOf0
 v0 := Tryz.zeroValue0
 t3 := Tryz.underlying3
 a3 := Tryz.isAgg3
 z3 := Tryz.sizeOf3
 v3 := Tryz.zeroValue3
 t4 := Tryz.underlying4
 a4 := Tryz.isAgg4
 z4 := Tryz.sizeOf4
 v4 := Tryz.zeroValue4
 t5 := Tryz.underlying5
 a5 := Tryz.isAgg5
 z5 := Tryz.sizeOf5
 v5 := Tryz.zeroValue5
 t9 := Tryz.underlying9
 a9 := Tryz.isAgg9
 z9 := Tryz.sizeOf9
 v9 := Tryz.zeroValue9
 t22 := Tryz.underlying43
 a22 := Tryz.isAgg43
 z22 := Tryz.sizeOf43
 v22 := Tryz.zeroValue43
 a24 := Tryz.isAgg9
 z24 := Tryz.sizeOf9
 t25 := Tryz.underlying106
 a25 := Tryz.isAgg106
 z25 := Tryz.sizeOf106
 v25 := Tryz.zeroValue106
 t39 := Tryz.underlying132
 a39 := Tryz.isAgg132
 z39 := Tryz.sizeOf132
 v39 := Tryz.zeroValue132
 t45 := Tryz.underlying157
 a45 := Tryz.isAgg157
 z45 := Tryz.sizeOf157
 v45 := Tryz.zeroValue157
 t46 := Tryz.underlying158
 a46 := Tryz.isAgg158
 z46 := Tryz.sizeOf158
 v46 := Tryz.zeroValue158
 t50 := Tryz.underlying163
 a50 := Tryz.isAgg163
 z50 := Tryz.sizeOf163
 v50 := Tryz.zeroValue163
 t53 := Tryz.underlying166
 a53 := Tryz.isAgg166
 z53 := Tryz.sizeOf166
 v53 := Tryz.zeroValue166
 t55 := Tryz.underlying168
 a55 := Tryz.isAgg168
 z55 := Tryz.sizeOf168
 v55 := Tryz.zeroValue168
 t66 := Tryz.underlying197
 a66 := Tryz.isAgg197
 z66 := Tryz.sizeOf197
 v66 := Tryz.zeroValue197
 t70 := Tryz.underlying201
 a70 := Tryz.isAgg201
 z70 := Tryz.sizeOf201
 v70 := Tryz.zeroValue201
 t76 := Tryz.underlying218
 a76 := Tryz.isAgg218
 z76 := Tryz.sizeOf218
 v76 := Tryz.zeroValue218
 t77 := Tryz.underlying219
 a77 := Tryz.isAgg219
 z77 := Tryz.sizeOf219
 v77 := Tryz.zeroValue219 }
def Tryz.layU_ren : Go.Shelf.Ren := ⟨fun | 6 => 162 | 15 => 114 | 14 => 205 | 28 => 159 | 29 => 160 | 20 => 232 | 21 => 233 | 22 => 234 | 23 => 235 | 24 => 236 | 25 => 237 | 26 => 238 | 27 => 239 | 46 => 251 | 47 => 199 | 48 => 200 | 49 => 252 | 50 => 253 | 57 => 259 | n => n, fun | 22 => 43 | 24 => 9 | 25 => 106 | 3 => 3 | 39 => 132 | 0 => 0 | 53 => 166 | 55 => 168 | 4 => 4 | 46 => 158 | 45 => 157 | 50 => 163 | 5 => 5 | 9 => 9 | 66 => 197 | 70 => 201 | 76 => 218 | 77 => 219 | n => n, fun | n => n⟩
theorem Tryz.layU : Go.Proofs.SlLaysF0.n6 prog Tryz.layU_ren := {
 mixed := by kernel_rfl
 f6 := ⟨Tryz.f162.name, by decide, func162.trans (congrArg some (by kernel_rfl))⟩
 f14 := ⟨Tryz.f205.name, by decide, func205.trans (congrArg some (by kernel_rfl))⟩
 f15 := func114.trans (congrArg some (by kernel_rfl))
 f20 := ⟨Tryz.f232.name, by decide, func232.trans (congrArg some (by kernel_rfl))⟩
 f21 := ⟨Tryz.f233.name, by decide, func233.trans (congrArg some (by kernel_rfl))⟩
 f22 := ⟨Tryz.f234.name, by decide, func234.trans (congrArg some (by kernel_rfl))⟩
 f23 := ⟨Tryz.f235.name, by decide, func235.trans (congrArg some (by kernel_rfl))⟩
 f24 := ⟨Tryz.f236.name, by decide, func236.trans (congrArg some (by kernel_rfl))⟩
 f25 := ⟨Tryz.f237.name, by decide, func237.trans (congrArg some (by kernel_rfl))⟩
 f26 := ⟨Tryz.f238.name, by decide, func238.trans (congrArg some (by kernel_rfl))⟩
 f27 := ⟨Tryz.f239.name, by decide, func239.trans (congrArg some (by kernel_rfl))⟩
 f28 := func159.trans (congrArg some (by kernel_rfl))
 f29 := func160.trans (congrArg some (by kernel_rfl))
 f46 := ⟨Tryz.f251.name, by decide, func251.trans (congrArg some (by kernel_rfl))⟩
 f47 := func199.trans (congrArg some (by kernel_rfl))
 f48 := func200.trans (congrArg some (by kernel_rfl))
 f49 := ⟨Tryz.f252.name, by decide, func252.trans (congrArg some (by kernel_rfl))⟩
 f50 := ⟨Tryz.f253.name, by decide, func253.trans (congrArg some (by kernel_rfl))⟩
 f57 := ⟨Tryz.f259.name, by decide, func259.trans (congrArg some (by kernel_rfl))⟩
 t0 := Tryz.underlying0
 a0 := Tryz.isAgg0
 z0 := Tryz.sizeOf0
 v0 := Tryz.zeroValue0
 t3 := Tryz.underlying3
 a3 := Tryz.isAgg3
 z3 := Tryz.sizeOf3
 v3 := Tryz.zeroValue3
 t4 := Tryz.underlying4
 a4 := Tryz.isAgg4
 z4 := Tryz.sizeOf4
 v4 := Tryz.zeroValue4
 t5 := Tryz.underlying5
 a5 := Tryz.isAgg5
 z5 := Tryz.sizeOf5
 v5 := Tryz.zeroValue5
 t9 := Tryz.underlying9
 a9 := Tryz.isAgg9
 z9 := Tryz.sizeOf9
 v9 := Tryz.zeroValue9
 t22 := Tryz.underlying43
 a22 := Tryz.isAgg43
 z22 := Tryz.sizeOf43
 v22 := Tryz.zeroValue43
 t25 := Tryz.underlying106
 a25 := Tryz.isAgg106
 z25 := Tryz.sizeOf106
 v25 := Tryz.zeroValue106
 t39 := Tryz.underlying132
 a39 := Tryz.isAgg132
 z39 := Tryz.sizeOf132
 v39 := Tryz.zeroValue132
 t45 := Tryz.underlying157
 a45 := Tryz.isAgg157
 z45 := Tryz.sizeOf157
 v45 := Tryz.zeroValue157
 t46 := Tryz.underlying158
 a46 := Tryz.isAgg158
 z46 := Tryz.sizeOf158
 v46 := Tryz.zeroValue158
 t50 := Tryz.underlying163
 a50 := Tryz.isAgg163
 z50 := Tryz.sizeOf163
 v50 := Tryz.zeroValue163
 t53 := Tryz.underlying166
 a53 := Tryz.isAgg166
 z53 := Tryz.sizeOf166
 v53 := Tryz.zeroValue166
 t55 := Tryz.underlying168
 a55 := Tryz.isAgg168
 z55 := Tryz.sizeOf168
 v55 := Tryz.zeroValue168
 t66 := Tryz.underlying197
 a66 := Tryz.isAgg197
 z66 := Tryz.sizeOf197
 v66 := Tryz.zeroValue197
 t70 := Tryz.underlying201
 a70 := Tryz.isAgg201
 z70 := Tryz.sizeOf201
 v70 := Tryz.zeroValue201
 t76 := Tryz.underlying218
 a76 := Tryz.isAgg218
 z76 := Tryz.sizeOf218
 v76 := Tryz.zeroValue218
 t77 := Tryz.underlying219
 a77 := Tryz.isAgg219
 z77 := Tryz.sizeOf219
 v77 := Tryz.zeroValue219 }
def Tryz.layC_ren : Go.Shelf.Ren := ⟨fun | 44 => 144 | n => n, fun | 25 => 43 | 26 => 9 | 3 => 3 | 4 => 4 | 0 => 0 | n => n, fun | n => n⟩
theorem Tryz.layC : Go.Proofs.SlLaysN.n44 prog Tryz.layC_ren := {
 mixed := by kernel_rfl
 f44 := ⟨Tryz.f144.name, by decide, func144.trans (congrArg some (by kernel_rfl))⟩
 t0 := Tryz.underlying0
 a0 := Tryz.isAgg0
 z0 := Tryz.sizeOf0
 v0 := Tryz.zeroValue0
 t3 := Tryz.underlying3
 a3 := Tryz.isAgg3
 z3 := Tryz.sizeOf3
 v3 := Tryz.zeroValue3
 t4 := Tryz.underlying4
 a4 := Tryz.isAgg4
 z4 := Tryz.sizeOf4
 v4 := Tryz.zeroValue4
 t25 := Tryz.underlying43
 a25 := Tryz.isAgg43
 z25 := Tryz.sizeOf43
 v25 := Tryz.zeroValue43
 t26 := Tryz.underlying9
 a26 := Tryz.isAgg9
 z26 := Tryz.sizeOf9
 v26 := Tryz.zeroValue9
 i26 := by kernel_rfl }
def Tryz.keysA_ren : Go.Shelf.Ren := ⟨fun | 7 => 117 | 10 => 163 | n => n, fun | 23 => 80 | 26 => 9 | 3 => 9 | 28 => 136 | 0 => 0 | 27 => 135 | 33 => 89 | 4 => 4 | n => n, fun | n => n⟩
theorem Tryz.keysA : Go.Proofs.SlLaysZ.n7 prog Tryz.keysA_ren := {
 mixed := by kernel_rfl
 f7 := ⟨Tryz.f117.name, by decide, func117.trans (congrArg some (by kernel_rfl))⟩
 f10 := ⟨Tryz.f163.name, by decide, func163.trans (congrArg some (by kernel_rfl))⟩
 t0 := Tryz.underlying0
 a0 := Tryz.isAgg0
 z0 := Tryz.sizeOf0
 v0 := Tryz.zeroValue0
 t4 := Tryz.underlying4
 a4 := Tryz.isAgg4
 z4 := Tryz.sizeOf4
 v4 := Tryz.zeroValue4
 t23 := Tryz.underlying80
 a23 := Tryz.isAgg80
 z23 := Tryz.sizeOf80
 v23 := Tryz.zeroValue80
 t26 := Tryz.underlying9
 a26 := Tryz.isAgg9
 z26 := Tryz.sizeOf9
 v26 := Tryz.zeroValue9
 t27 := Tryz.underlying135
 a27 := Tryz.isAgg135
 z27 := Tryz.sizeOf135
 v27 := Tryz.zeroValue135
 t28 := Tryz.underlying136
 a28 := Tryz.isAgg136
 z28 := Tryz.sizeOf136
 v28 := Tryz.zeroValue136
 t33 := Tryz.underlying89
 a33 := Tryz.isAgg89
 z33 := Tryz.sizeOf89
 v33 := Tryz.zeroValue89 }
def Tryz.coll_ren : Go.Shelf.Ren := ⟨fun | 8 => 161 | 11 => 204 | n => n, fun | 26 => 9 | 28 => 136 | 24 => 43 | 0 => 0 | 33 => 89 | 4 => 4 | n => n, fun | n => n⟩
theorem Tryz.coll : Go.Proofs.SlLaysZ.n8 prog Tryz.coll_ren := {
 mixed := by kernel_rfl
 f8 := ⟨Tryz.f161.name, by decide, func161.trans (congrArg some (by kernel_rfl))⟩
 f11 := ⟨Tryz.f204.name, by decide, func204.trans (congrArg some (by kernel_rfl))⟩
 t0 := Tryz.underlying0
 a0 := Tryz.isAgg0
 z0 := Tryz.sizeOf0
 v0 := Tryz.zeroValue0
 t24 := Tryz.underlying43
 a24 := Tryz.isAgg43
 z24 := Tryz.sizeOf43
 v24 := Tryz.zeroValue43
 t26 := Tryz.underlying9
 a26 := Tryz.isAgg9
 z26 := Tryz.sizeOf9
 v26 := Tryz.zeroValue9
 t28 := Tryz.underlying136
 a28 := Tryz.isAgg136
 z28 := Tryz.sizeOf136
 v28 := Tryz.zeroValue136
 i26 := by kernel_rfl }
end Go.Proofs
namespace Go.Proofs.Tz
open Go.Vw Go.Sort Go.RowKit
theorem a9U (w : World) (L : Nat -> Nat -> Prop) : ∀ (l : List Str), A8 w L (l.map .str) (l.map fun s => [encStr s])
 | [] => by simp [A8]
 | s :: l => by
   simp only [map_cons, A8]; exact ⟨_, _, rfl, by simp [Rep, encStr], a9U w L l⟩
theorem a3t : ∀ (l : List Str), (l.map fun s => [encStr s]).flatten = l.map encStr
 | [] => rfl
 | s :: l => by simp [a3t l]
theorem a8t {w : World} {L : Nat -> Nat -> Prop} : ∀ {l : List Str} {css : List (List Value)}, A8 w L (l.map .str) css -> css = l.map fun s => [encStr s]
 | [], css, h => by simpa [A8] using h
 | s :: l, css, h => by
   simp only [map_cons, A8] at h; obtain ⟨c, cs, rfl, h1, h2⟩ := h; rw [a8t h2]; simp only [Rep] at h1; subst h1; rfl
def I3 (l : List Str) : List Str := l.mergeSort fun x y => decide (x <= y)
theorem b0S {w : World} {g : Nat} {l : List Str} (h : Holds id w g 0 (l.map encStr).toArray) : Holds encStr w g 0 l.toArray := by
 intro j hj; have hj' : j < l.length := (by simpa using hj); have := h j (by simpa using hj'); simpa [hj'] using this
theorem b1X (l : List Str) (hl : l.length < 1000000) : a5Z prog 62 9 (l.map .str) [] ((I3 l).map .str) := by
 refine ⟨enters_of func62 (by kernel_rfl) rfl, fun w L og v vals hlok hgl hown hrc => ?_⟩; simp only [RCs] at hrc; subst hrc; obtain ⟨css0, sz0, g1, g2, g3, g4, g5⟩ := id hown; rcases g4.2 with ⟨hv, hn⟩ | ⟨g, cap, cur, hv, _⟩
 . have hl0 : l = [] := (by simpa using hn); subst hl0; subst hv; have h := AnyM.slices_Sort_string_none Tryz.layS none 0 w
   change Calls prog 62 _ _ _ at h
   refine h.mono ?_; rintro e w' ⟨rfl, rfl⟩; exact ⟨L, rfl, F7.refl _ _, hlok, fun _ _ _ _ => Iff.rfl, by simpa [I3] using hown⟩
 . subst hv; obtain ⟨css, h1, h2, h3, h4, h5⟩ := hown.holds; have hcss := a8t h1; subst hcss; rw [a3t] at h3; have h := AnyM.slices_Sort_string Tryz.layS g 0 cap l w (b0S h3) h4 (by omega)
   change Calls prog 62 _ _ _ at h
   rw [length_map]; refine h.mono ?_; rintro e w' ⟨rfl, n, os, rfl⟩; rw [a6f encStr]; have hlen : (I3 l).length = l.length := (by simp [I3]); have hog := (hown.blk (g := g) rfl).1; have hs := hown.sorted hlok (a9U w L (I3 l)) (by simp [hlen]) (fun sz hsz c hc => by
     obtain ⟨s, _, rfl⟩ := mem_map.1 hc; rw [show (prog.info? (ety 9)).map (·.size) = some 1 from Tryz.sz_9] at hsz; simpa using hsz) n os (F := ((I3 l).map encStr).toArray) (by rw [a3t])
   rw [length_map] at hs; have e : (List.map encStr (I3 l)).toArray = Array.map encStr (l.mergeSort fun x y => decide (x <= y)).toArray := by simp [I3]
   rw [M1, e] at hs; refine ⟨L, rfl, ?_, hs.2.2, fun _ _ _ _ => Iff.rfl, hs.1⟩; rw [hog]; exact hs.2.1
def a2S (x : Str × Sl) : List Value := [encStr x.1, .slice x.2.1 x.2.2.1 x.2.2.2]
theorem b4f (w : World) (L : Nat -> Nat -> Prop) : ∀ (l : List (Str × Sl)), A8 w L (l.map rw2) (l.map a2S)
 | [] => by simp [A8]
 | s :: l => by
   simp only [map_cons, A8]; refine ⟨_, _, rfl, ?_, b4f w L l⟩; simp only [rw2, Rep, A8]; exact ⟨[[encStr s.1], [.slice s.2.1 s.2.2.1 s.2.2.2]], ⟨_, _, rfl, by simp [encStr], _, _, rfl, ⟨rfl, by simp [Value.oneCell'], rfl⟩, rfl⟩, rfl⟩
theorem b2H {w : World} {L : Nat -> Nat -> Prop} : ∀ {l : List (Str × Sl)} {css : List (List Value)}, A8 w L (l.map rw2) css -> css = l.map a2S
 | [], css, h => by simpa [A8] using h
 | s :: l, css, h => by
   simp only [map_cons, A8] at h; obtain ⟨c, cs, rfl, h1, h2⟩ := h; simp only [rw2, Rep, A8] at h1; obtain ⟨css, ⟨_, _, rfl, rfl, _, _, rfl, ⟨rfl, h3, h4⟩, rfl⟩, rfl⟩ := h1; rw [b2H h2]; rfl
def a4s (x y : Str × Sl) : Int := if Op.bytesLess x.1 y.1 then -1 else 1
end Go.Proofs.Tz
namespace Go.Proofs.Tz
open Go.Vw Go.Sort Go.RowKit Go.Lib
theorem ltR (x y : Str × Sl) : ltOf a4s x y = Op.bytesLess x.1 y.1 := by
 unfold ltOf a4s; cases Op.bytesLess x.1 y.1 <;> simp
theorem c5A : SWO (ltOf a4s) where
 irrefl x := by rw [ltR, bytesLess_eq]; simp
 trans x y z h1 h2 := by
   rw [ltR, bytesLess_eq] at *; simp only [decide_eq_true_eq] at *; exact List.lt_trans h1 h2
 ntrans x y z h1 h2 := by
   rw [ltR, bytesLess_eq] at *; simp only [decide_eq_false_iff_not, List.not_lt] at *; exact List.le_trans h2 h1
theorem c0U (a b : ByteArray) (u v : Value) (W : World) : Calls prog 146 #[.agg #[.string a, u], .agg #[.string b, v]] W fun e w' => e = .returned (.int .i64 (if Op.bytesLess a.toList b.toList then -1 else 1)) /\ ∃ q os', w' = grow (W.drewN q) os' := by
 cases hb : Op.bytesLess a.toList b.toList
 . go_enter func146, Tryz.ntmps146
   go_wp2
   go_ret
   exact ⟨rfl, 0, _, by rw [alloc_eq_grow, alloc_eq_grow, grow_grow]; rfl⟩
 . go_enter func146, Tryz.ntmps146
   go_wp2
   go_ret
   exact ⟨rfl, 0, _, by rw [alloc_eq_grow, alloc_eq_grow, grow_grow]; rfl⟩
instance : Inhabited (Str × Sl) := ⟨([], none, 0, 0)⟩
def Z0 (l : List (Str × Sl)) : List (Str × Sl) := (pdq (ltOf a4s) l.toArray 0 l.length (Lib.bitLen l.length) true true).toList
theorem a5W (l : List (Str × Sl)) : (Z0 l).Perm l /\ ∀ i j (hij : i < j) (hj : j < (Z0 l).length), Op.bytesLess (Z0 l)[j].1 ((Z0 l)[i]'(by omega)).1 = false := by
 have h := pdq_sorts (ltOf a4s) c5A l.toArray 0 l.length (Lib.bitLen l.length) true true (Nat.zero_le _) (by simp) (Or.inl rfl); obtain ⟨⟨h1, h2, h3⟩, h4⟩ := h; have hs : (Z0 l).length = l.length := (by simpa [Z0] using h1); refine ⟨?_, fun i j hij hj => ?_⟩
 . have e1 : (pdq (ltOf a4s) l.toArray 0 l.length (Lib.bitLen l.length) true true).extract 0 l.length = pdq (ltOf a4s) l.toArray 0 l.length (Lib.bitLen l.length) true true := by
     apply Array.extract_eq_self_of_le; rw [h1]; simp
   rw [e1] at h3; simpa [Z0] using h3
 . have := h4 i j (Nat.zero_le _) hij (by omega); rw [ltR] at this; have hj' : j < (pdq (ltOf a4s) l.toArray 0 l.length (Lib.bitLen l.length) true true).size := (by simpa [Z0] using hj); rw [getElem!_pos _ j hj', getElem!_pos _ i (by omega)] at this; simpa [Z0] using this
theorem b4i {α : Type} [Inhabited α] (enc : α -> List Value) (k : Nat) (l : List α) (hk : ∀ x, (enc x).length = k) (hp : 0 < k) : flatK enc k l.toArray = (l.map enc).flatten.toArray := by
 have hfl : (l.map enc).flatten.length = l.length * k := by rw [W4 (fun c hc => by obtain ⟨x, _, rfl⟩ := mem_map.1 hc; exact hk x), length_map]
 apply Array.ext
 . simp [flatK, hfl]
 . intro t h1 h2; have ht : t < l.length * k := (by simpa [flatK] using h1); have hq : t / k < l.length := Nat.div_lt_of_lt_mul (by rw [Nat.mul_comm]; exact ht); have hr : t % k < (enc l[t / k]).length := by rw [hk]; exact Nat.mod_lt _ hp
   have := a3h (css := l.map enc) (sz := k) (fun c hc => by obtain ⟨x, _, rfl⟩ := mem_map.1 hc; exact hk x) (i := t / k) (c := enc l[t / k]) (by simp [hq]) (t % k) ((enc l[t / k])[t % k]) (getElem?_eq_getElem hr); rw [show t / k * k + t % k = t by rw [Nat.mul_comm]; exact Nat.div_add_mod t k] at this; have e2 := (List.getElem?_eq_some_iff.1 this).2; simp only [flatK, size_toArray, Array.getElem_map, Array.getElem_range, getElem_toArray]; rw [e2, show (l.toArray[t / k]! : α) = l[t / k] by rw [getElem!_pos l.toArray _ (by simpa using hq)]; simp]; exact getElem!_pos (enc l[t / k]) (t % k) hr
theorem c2j (l : List (Str × Sl)) (hl : l.length < 1000000) : a5Z prog 145 72 (l.map rw2) [.d (.clo 146 [])] ((Z0 l).map rw2) := by
 refine ⟨enters_of func145 (by kernel_rfl) rfl, fun w L og v vals hlok hgl hown hrc => ?_⟩; simp only [RCs] at hrc; obtain ⟨cv, us, rfl, hc1, rfl⟩ := hrc; simp only [RC] at hc1; obtain ⟨ccs, hcc, rfl⟩ := a2k hc1; simp only [A8] at hcc; subst hcc; simp only [flatten_nil]; obtain ⟨css0, sz0, g1, g2, g3, g4, g5⟩ := id hown; rcases g4.2 with ⟨hv, hn⟩ | ⟨g, cap, cur, hv, _⟩
 . have hl0 : l = [] := (by simpa using hn); subst hl0; subst hv; have h := AnyF.slices_SortFunc_none Tryz.layF none 0 (.func (.func 146) #[] #[]) w
   change Calls prog 145 _ _ _ at h
   refine h.mono ?_; rintro e w' ⟨rfl, rfl⟩; have hnil : Z0 [] = [] := Perm.eq_nil (a5W []).1; exact ⟨L, rfl, F7.refl _ _, hlok, fun _ _ _ _ => Iff.rfl, by rw [hnil]; exact hown⟩
 . subst hv; obtain ⟨css, h1, h2, h3, h4, h5⟩ := hown.holds; have hcss := b2H h1; subst hcss; have hK : HoldsK a2S 2 w g 0 l.toArray := by
     unfold HoldsK; rw [b4i a2S 2 l (fun _ => rfl) (by omega)]; exact h3
   have eg : ∀ args w, (callFunc 146 args).run prog w = .ok (.enter 146 args) w := enters_of func146 (by kernel_rfl) rfl; have hcmp : CmpLays prog 146 #[] a2S 2 a4s g 0 l.toArray.size w := fun m os dk _ x y => by
     have := c0U ⟨x.1.toArray⟩ ⟨y.1.toArray⟩ (.slice x.2.1 x.2.2.1 x.2.2.2) (.slice y.2.1 y.2.2.1 y.2.2.2) (sortWorldK a2S 2 w g 0 m dk os); simp only [Lib.toList_data] at this; exact this
   have h := AnyQ.slices_SortFunc_eq Tryz.layF 2 Tryz.isAgg72 Tryz.sizeOf72 a2S (fun _ => rfl) (fun x v hv => ?_) a4s c5A 146 #[] g 0 cap l.toArray w eg hcmp hK h4 (by simp; omega)
   . change Calls prog 145 _ _ _ at h
     simp only [size_toArray] at h; rw [length_map]; refine h.mono ?_; rintro e w' ⟨rfl, n, os, rfl⟩; have hp := (a5W l).1; have hlen : (Z0 l).length = l.length := hp.length_eq; have hog := (hown.blk (g := g) rfl).1; have hs := hown.sorted hlok (b4f w L (Z0 l)) (by simp [hlen]) (fun sz hsz c hc => by
       obtain ⟨s, _, rfl⟩ := mem_map.1 hc; rw [show (prog.info? (ety 72)).map (·.size) = some 2 from Tryz.sz_72] at hsz; simpa [a2S] using hsz) n os (F := ((Z0 l).map a2S).flatten.toArray) rfl
     rw [length_map] at hs; have e : M1 w g n ((Z0 l).map a2S).flatten.toArray os = sortWorldK a2S 2 w g 0 n (pdq (ltOf a4s) l.toArray 0 l.length (Lib.bitLen l.length) true true) os := by
       unfold M1 sortWorldK putRowK; rw [<- b4i a2S 2 (Z0 l) (fun _ => rfl) (by omega)]; rfl
     rw [e] at hs; refine ⟨L, rfl, ?_, hs.2.2, fun _ _ _ _ => Iff.rfl, hs.1⟩; rw [hog]; exact hs.2.1
   . simp only [a2S, mem_cons, not_mem_nil, or_false] at hv; rcases hv with rfl | rfl <;> rfl
theorem c2J {w : World} {L : Nat -> Nat -> Prop} {og : Option Nat} {g cap : Nat} {l : List Str} (hown : F0 prog w L og true 9 (l.map .str) (.slice (some ⟨g, 0, none⟩) l.length cap)) (hlok : ∀ b q, L b q -> b < w.heap.size) (l' : List Str) (hl : l'.length = l.length) (q : Nat) :
   F0 prog (putRow encStr (Sort.ahead w q) g 0 l'.toArray) L og true 9 (l'.map .str) (.slice (some ⟨g, 0, none⟩) l.length cap) /\ F7 w (putRow encStr (Sort.ahead w q) g 0 l'.toArray) (H1 (some g)) /\ ∀ b p, L b p -> b < (putRow encStr (Sort.ahead w q) g 0 l'.toArray).heap.size := by
 have hown' : F0 prog w L og true 9 (l.map .str) (.slice (some ⟨g, 0, none⟩) (l.map D.str).length cap) := by rw [length_map]; exact hown
 have hs := hown'.sorted hlok (a9U w L l') (by simp [hl]) (fun sz hsz c hc => by
   obtain ⟨s, _, rfl⟩ := mem_map.1 hc; rw [show (prog.info? (ety 9)).map (·.size) = some 1 from Tryz.sz_9] at hsz; simpa using hsz) q #[] (F := (l'.map encStr).toArray) (by rw [a3t])
 rw [length_map] at hs; have e : M1 w g q (l'.map encStr).toArray #[] = putRow encStr (Sort.ahead w q) g 0 l'.toArray := by
   unfold M1; rw [grow_empty, a6f encStr]; simp
 rw [e] at hs; exact hs
theorem c2U {w : World} {L : Nat -> Nat -> Prop} {og : Option Nat} {l : List Str} {v : Value} (h : F0 prog w L og true 9 (l.map .str) v) :
   (v = .slice none 0 0 /\ l = []) \/ ∃ g cap, v = .slice (some ⟨g, 0, none⟩) l.length cap /\ l.length <= cap /\ cap <= maxLen /\ Holds encStr w g 0 l.toArray /\ g < w.heap.size /\ og = some g := by
 obtain ⟨css0, sz0, g1, g2, g3, g4, g5⟩ := id h; rcases g4.2 with ⟨hv, hn⟩ | ⟨g, cap, cur, hv, hh, hnc, hcm, _⟩
 . exact .inl ⟨hv, by simpa using hn⟩
 . subst hv; obtain ⟨css, h1, h2, h3, h4, h5⟩ := h.holds; have hcss := a8t h1; subst hcss; rw [a3t] at h3; exact .inr ⟨g, cap, by rw [length_map], by simpa using hnc, hcm, b0S h3, h4, (h.blk (g := g) rfl).1⟩
theorem b8q (l : List Str) (hl : l.length < 1000000) : Ctr prog 144 [.own true 9 (l.map .str)] (.own true 9 ((compact l).map .str)) := by
 refine ⟨enters_of func144 (by kernel_rfl) rfl, fun w L og vals hlok hgl hog hrc => ?_⟩; simp only [RCs] at hrc; obtain ⟨v, us, rfl, hown, rfl⟩ := hrc; simp only [RC] at hown; rcases c2U hown with ⟨rfl, rfl⟩ | ⟨g, cap, rfl, hcap, hcm, hH, hg, hgo⟩
 . have h := AnyG.slices_Compact_string_empty Tryz.layC none 0 w
   change Calls prog 144 _ _ _ at h
   refine h.mono ?_; rintro e w' ⟨rfl, rfl⟩; exact ⟨_, L, og, rfl, F7.refl _ _, hlok, fun _ _ _ _ => Iff.rfl, fun g hg => ⟨(hog g hg).1, .inr hg⟩, hown⟩
 . have h := AnyG.slices_Compact_string Tryz.layC g 0 cap l w hH (by omega) hcap
   change Calls prog 144 _ _ _ at h
   refine h.mono ?_; rintro e w' ⟨rfl, q, rfl⟩; have hle := compact_length_le l; have hp := c2J hown hlok (compact l ++ replicate (l.length - (compact l).length) []) (by simp; omega) q; refine ⟨_, L, og, rfl, by rw [hgo]; exact hp.2.1, hp.2.2, fun _ _ _ _ => Iff.rfl, fun b hb => ?_, ?_⟩
   . refine ⟨Nat.lt_of_lt_of_le (hog b hb).1 hp.2.1.size, .inr hb⟩
   . simp only [RC]; have := hp.1.cut (hi := (compact l).length) (m := cap) (by simp) (by omega) (Nat.le_refl _); rw [<- map_take, take_left] at this; exact this
end Go.Proofs.Tz
namespace Go.Proofs.Tz
open Go.Vw
theorem b8j (x : Str × Sl) (n : Str) : Ctr prog 141 [.d (rw2 x), .d (.ref (.str n))] (.d (.bool (decide (x.1 = n)))) := by
 refine fv (fun _ => false) func141 (by kernel_rfl) rfl rfl rfl rfl rfl ?_; simp -implicitDefEqProofs [rw2]
theorem c1o (x : Str × Sl) : Ctr prog 143 [.d (rw2 x)] (.d (.bool (decide (x.2.2.1 = 0)))) := by
 refine fv (fun _ => false) func143 (by kernel_rfl) rfl rfl rfl rfl rfl ?_; simp -implicitDefEqProofs [rw2]
abbrev Row := Str × Sl × List Str
def pr (r : Row) : Str × Sl := (r.1, r.2.1)
def nv (r : Row) : Att := (r.1, r.2.2)
def hd (r : Row) : Value := .slice r.2.1.1 r.2.1.2.1 r.2.1.2.2
def a1r (r : Row) : D := rw2 (pr r)
def hnd (r : Row) : AV := .hs (hd r) 9 (r.2.2.map .str)
theorem a9W {α β : Type} (f : α -> β) (p : β -> Bool) : ∀ (l : List α) (k : Nat), W3 p k (l.map f) = W3 (fun x => p (f x)) k l
 | [], _ => rfl
 | x :: l, k => by simp only [map_cons, W3, a9W f p l (k + 1)]
def a1j (acc : List Att) (a : Att) : List Att :=
 if W3 (fun x : Att => decide (x.1 = D2 a.1)) 0 acc = -1 then acc ++ [(D2 a.1, a.2)] else acc.modify (W3 (fun x : Att => decide (x.1 = D2 a.1)) 0 acc).toNat fun x => (x.1, x.2 ++ a.2)
def grp (l : List Att) : List Att := l.foldl a1j []
theorem c2r {l : List Att} {k : Nat} (h : k < l.length) : grp (l.take (k + 1)) = a1j (grp (l.take k)) l[k] := by
 rw [F6 h]; simp only [grp, foldl_append, foldl_cons, foldl_nil]
theorem b7m (l : List Att) : (grp l).length <= l.length := by
 have key : ∀ (l acc : List Att), (l.foldl a1j acc).length <= acc.length + l.length := by
   intro l
   induction l with
   | nil => intro acc; simp
   | cons a l ih =>
     intro acc; have := ih (a1j acc a); have h2 : (a1j acc a).length <= acc.length + 1 := by
       unfold a1j; split <;> simp
     simp only [foldl_cons, length_cons]; omega
 simpa [grp] using key l []
theorem b9l (a b : List Att) : H8 (a ++ b) = H8 a + H8 b := by simp [H8]
theorem a7w (f : Att -> Att) (n : Nat) : ∀ (acc : List Att) (i : Nat), (∀ x, (f x).2.length = x.2.length + n) -> i < acc.length -> H8 (acc.modify i f) = H8 acc + n
 | [], i, _, h => by simp at h
 | x :: acc, 0, hf, _ => by simp [H8, modify_cons, hf]; omega
 | x :: acc, i + 1, hf, h => by
   have := a7w f n acc i hf (by simpa using h); simp only [H8, modify_succ_cons, map_cons, sum_cons] at this ⊢; omega
theorem b8L (acc : List Att) (a : Att) : H8 (a1j acc a) = H8 acc + a.2.length := by
 unfold a1j; split
 . rw [b9l]; simp [H8]
 . rename_i h
   obtain ⟨i, h1, h2, _⟩ := a6S _ acc 0 h; rw [h1]; exact a7w _ _ _ _ (fun x => by simp) (by simpa using h2)
theorem a8d (l : List Att) : H8 (grp l) = H8 l := by
 have key : ∀ (l acc : List Att), H8 (l.foldl a1j acc) = H8 acc + H8 l := by
   intro l
   induction l with
   | nil => intro acc; simp [H8]
   | cons a l ih =>
     intro acc; rw [foldl_cons, ih, b8L]; simp only [H8, map_cons, sum_cons]; omega
 have := key l []; simpa [grp, H8] using this
theorem a7C {l : List Att} {x : Att} (h : x ∈ l) : x.2.length <= H8 l := by
 induction l with
 | nil => simp at h
 | cons y l ih =>
   simp only [H8, map_cons, sum_cons] at ih ⊢; rcases mem_cons.1 h with rfl | h
   . omega
   . have := ih h; omega
theorem a6N {α : Type} (f : α -> α) : ∀ (l : List α) (i : Nat) (x : α), l[i]? = some x -> l.modify i f = l.set i (f x)
 | [], i, x, h => by simp at h
 | y :: l, 0, x, h => by
   simp only [getElem?_cons_zero, Option.some.injEq] at h; subst h; rfl
 | y :: l, i + 1, x, h => by
   simp only [getElem?_cons_succ] at h; simp [modify_succ_cons, a6N f l i x h]
theorem N3 (i d : Nat) (h : d < 1000000) : (1000000 + i = d) = False := by simp; omega
theorem K9 (i d : Nat) (h : d < 1000000) : (d = 1000000 + i) = False := by simp; omega
theorem c5U : a0n prog true 72 = some [.str [], .raw (.slice none 0 0)] := by kernel_rfl
def c4c (rs : List Row) : Prop := ∀ r ∈ rs, r.2.1.2.1 = r.2.2.length
def Y3 : Nat -> Bool := fun i => i == 3 || i == 44 || i == 1000027 || i == 2000020 || i == 3000055 || i == 4000063 || i == 3000068
abbrev a7h := Row × Nat
def q1 (q : a7h) : D := a1r q.1
def c7y (qs : List a7h) (τ : St) : Prop := (qs.map (·.2)).Nodup /\ ∀ q ∈ qs, τ (1000000 + q.2) = hnd q.1
def a1X (a : Att) : Att := (a.1, Go.Lib.compact (I3 a.2))
def a3D (a : Att) : Bool := !decide (a.2 = [])
def c5J (m : List (Str × Sl)) : Prop := ∀ i j (_ : i < j) (hj : j < m.length), Op.bytesLess m[j].1 (m[i]'(by omega)).1 = false
theorem b9O {α β : Type} (f : α -> β) {m m' : List β} (h : m.Perm m') : ∀ l : List α, l.map f = m' -> ∃ l' : List α, l'.Perm l /\ l'.map f = m := by
 induction h with
 | nil => intro l hl; exact ⟨l, .refl _, hl⟩
 | cons x p ih =>
   intro l hl; cases l with
   | nil => simp at hl
   | cons a t =>
     simp only [map_cons, List.cons.injEq] at hl; obtain ⟨t', h1, h2⟩ := ih t hl.2; exact ⟨a :: t', h1.cons a, by simp [hl.1, h2]⟩
 | swap x y l0 =>
   intro l hl
   match l, hl with
   | a :: b :: t, hl =>
     simp only [map_cons, List.cons.injEq] at hl; exact ⟨b :: a :: t, .swap _ _ _, by simp [hl.1, hl.2.1, hl.2.2]⟩
 | trans h1 h2 ih1 ih2 =>
   intro l hl; obtain ⟨l2, p2, e2⟩ := ih2 l hl; obtain ⟨l1, p1, e1⟩ := ih1 l2 e2; exact ⟨l1, p1.trans p2, e1⟩
theorem b7q {rs : List Row} {q : a7h} (h : q ∈ rs.zipIdx) : ∃ hi : q.2 < rs.length, rs[q.2] = q.1 := by
 obtain ⟨r, i⟩ := q; have := mem_zipIdx_iff_getElem?.1 h; exact ⟨(List.getElem?_eq_some_iff.1 this).1, (List.getElem?_eq_some_iff.1 this).2⟩
theorem b7Y (l : List Att) (hl : a4m l) : G1 prog 100 [.d (H6 l)] [] (fun r hs => ∃ rs : List Row, r = .own true 72 (rs.map a1r) /\ hs = rs.map hnd /\ (rs.map nv).Perm (((grp l).filter a3D).map a1X) /\ ∀ i j (_ : i < j) (hj : j < rs.length), Op.bytesLess rs[j].1 (rs[i]'(by omega)).1 = false) := by
 refine S3 Y3 (by kernel_rfl) func100 (by kernel_rfl) rfl rfl (nbl rfl) (by kernel_rfl) rfl ?_; obtain ⟨⟨hl1, hl2⟩, hl3⟩ := hl; simp -implicitDefEqProofs [Y3, A5, H6]; refine F3 l.length (fun k τ => τ 9 = .d (.sl (l.map att)) /\ τ 10 = .d (.int .i64 l.length) /\ τ 11 = .d (.int .i64 k) /\ ∃ rs : List Row, τ 3 = .own true 72 (rs.map a1r) /\ (∀ i (h : i < rs.length), τ (1000000 + i) = hnd rs[i]) /\ (∀ i, rs.length <= i -> τ (1000000 + i) = .undef) /\ rs.map nv = grp (l.take k) /\ c4c rs) ?_ ?_
 . refine ⟨by simp, by simp, by simp, [], by simp, by simp, fun i _ => ?_, by simp [grp], by simp [c4c]⟩; simp [A5, N3]
 rintro k τ hk ⟨h9, h10, h11, rs, h3, hH, hU, hg, hlen⟩; by_cases hlt : k < l.length
 . simp -implicitDefEqProofs [Y3, h9, h10, h11, h3, hlt, att, B0]; refine A0 (a2F _ (hl2 _ (gmm hlt)).1) ?_; simp -implicitDefEqProofs [Y3, h9, h10, h11, h3, hlt, att, B0]; have hrk : rs.length <= k := by
     have := b7m (l.take k); rw [<- hg] at this; simpa [Nat.min_eq_left (Nat.le_of_lt hlt)] using this
   have htot := b1e l k hlt; rw [<- a8d (l.take k), <- hg] at htot; have hmr : rs.map a1r = (rs.map pr).map rw2 := (by simp [a1r]); rw [hmr]; refine c4e (b3f 141 [.ref (.str (D2 l[k].1))] rfl (fun x => decide (x.1 = D2 l[k].1)) (rs.map pr) (by simp; omega) (fun a _ => b8j a _)) rfl ?_; rw [<- hmr]; have hidx : W3 (fun x : Str × Sl => decide (x.1 = D2 l[k].1)) 0 (rs.map pr) = W3 (fun x : Att => decide (x.1 = D2 l[k].1)) 0 (grp (l.take k)) := by
     rw [<- hg, a9W, a9W]; rfl
   rw [hidx]; have hnew := c2r (l := l) hlt; by_cases hn : W3 (fun x : Att => decide (x.1 = D2 l[k].1)) 0 (grp (l.take k)) = -1
   . simp -implicitDefEqProofs [Y3, h9, h10, h11, h3, hlt, att, B0, hn, c5U]; refine ⟨by omega, by omega, c8u (1000000 + rs.length) (by simp [N3, hU]) (by simp) (by simp; omega) (by simp; omega) (fun A c => ?_)⟩; simp -implicitDefEqProofs [Y3, h9, h10, h11, h3, hlt, att, B0, hn, c5U, N3, K9]; refine ⟨by omega, B8 hlt ⟨by simp [h9, N3, K9], by simp [h10, N3, K9], by simp [N3, K9], rs ++ [(D2 l[k].1, (A, l[k].2.length, c), l[k].2)], ?_, fun i hi => ?_, fun i hi => ?_, ?_, ?_⟩⟩
     . simp [N3, K9, a1r, rw2, pr, set_append]
     . simp only [length_append, length_cons, length_nil] at hi; by_cases hi2 : i < rs.length
       . have hne : ¬ (i = rs.length) := (by omega); simp [N3, K9, hH i hi2, hnd, hne, getElem_append_left hi2]
       . have hie : i = rs.length := (by omega); subst hie; simp [N3, K9, hnd, hd]
     . simp only [length_append, length_cons, length_nil] at hi; have hne : ¬ (i = rs.length) := (by omega); simp [N3, K9, hU i (by omega), hne]
     . rw [hnew, a1j, if_pos hn, map_append, hg]; rfl
     . intro r hr; rcases mem_append.1 hr with hr | hr
       . exact hlen r hr
       . rw [mem_singleton.1 hr]
   . obtain ⟨i, hi1, hi2, hi3, hi4⟩ := a6S (fun x : Att => decide (x.1 = D2 l[k].1)) (grp (l.take k)) 0 hn; simp only [Nat.zero_add] at hi1; have hir : i < rs.length := by rw [<- hg] at hi2; simpa using hi2
     have hi0 : ¬ (i : Int) < 0 := (by omega); have hvl : rs[i].2.2.length + l[k].2.length <= 1000000 := by
       have := a7C (l := rs.map nv) (x := nv rs[i]) (mem_map.2 ⟨_, gmm hir, rfl⟩); simp only [nv] at this; omega
     rw [hi1]; simp -implicitDefEqProofs [Y3, h9, h10, h11, h3, hlt, att, B0, hi0, hir, a1r, rw2, pr]; refine c3G (1000000 + i) (by simp [N3, hH i hir, hnd, hd]; rfl) (by simp) (by simp; omega) (by simp; omega) (fun A c => ?_); simp -implicitDefEqProofs [Y3, h9, h10, h11, h3, hlt, att, B0, hi0, hir, a1r, rw2, pr, N3, K9]; have hset : (rs.set i (rs[i].1, (A, rs[i].2.2.length + l[k].2.length, c), rs[i].2.2 ++ l[k].2)).length = rs.length := (by simp); refine ⟨by omega, B8 hlt ⟨by simp [h9, N3, K9], by simp [h10, N3, K9], by simp [N3, K9], rs.set i (rs[i].1, (A, rs[i].2.2.length + l[k].2.length, c), rs[i].2.2 ++ l[k].2), ?_, fun j hj => ?_, fun j hj => ?_, ?_, ?_⟩⟩
     . simp [N3, K9, a1r, rw2, pr, map_set]
     . rw [hset] at hj; by_cases hji : j = i
       . subst hji; simp [N3, K9, hnd, hd]
       . have hij : ¬ i = j := fun e => hji e.symm
         simp [N3, K9, hH j hj, hnd, hji, hij, getElem_set_ne]
     . rw [hset] at hj; have hji : ¬ j = i := (by omega); simp [N3, K9, hU j hj, hji]
     . rw [hnew, a1j, if_neg hn, hi1, map_set, <- hg]; rw [Int.toNat_natCast]; exact (a6N (fun x : Att => (x.1, x.2 ++ l[k].2)) _ _ (nv rs[i]) (by rw [getElem?_map, getElem?_eq_getElem hir]; rfl)).symm
     . intro r hr; rcases mem_or_eq_of_mem_set hr with hr | hr
       . exact hlen r hr
       . rw [hr]; simp
 . have hkl : k = l.length := (by omega); rw [hkl, take_length] at hg; have hrk : rs.length <= l.length := by
     have := b7m l; rw [<- hg] at this; simpa using this
   have hmr : rs.map a1r = (rs.map pr).map rw2 := (by simp [a1r]); rw [hmr] at h3; have hf := b9f 143 [] rfl (fun x => decide (x.2.2.1 = 0)) (rs.map pr) (by simp; omega) (fun a _ => c1o a); simp -implicitDefEqProofs [Y3, h9, h10, h11, h3, hlt, att, B0]; simp only [rw2, map_map] at hf; refine A0 hf ?_; obtain ⟨q0, hq0⟩ : ∃ q0 : List a7h, q0 = rs.zipIdx.filter fun q => !decide (q.1.2.1.2.1 = 0) := ⟨_, rfl⟩
   have e1 : ((rs.map pr).filter fun x => !decide (x.2.2.1 = 0)).map rw2 = q0.map q1 := by
     rw [hq0]; have : rs = rs.zipIdx.map (·.1) := by simp
     conv => lhs; rw [this]
     rw [map_map, filter_map, map_map]; rfl
   have e2 : q0.map (fun q => nv q.1) = (grp l).filter a3D := by
     rw [<- hg, hq0]; have : rs = rs.zipIdx.map (·.1) := by simp
     conv => rhs; rw [this]
     rw [map_map, filter_map]; congr 1
     refine filter_congr (fun q hq => ?_); obtain ⟨hi, hr⟩ := b7q hq; have := hlen q.1 (hr ▸ gmm hi); simp [a3D, nv, this, length_eq_zero_iff]; exact decide_eq_decide.2 Iff.rfl
   have e3 : (q0.map (·.2)).Nodup := by
     rw [hq0]; have h1 : (rs.zipIdx.map (·.2)).Nodup := by rw [zipIdx_map_snd]; exact nodup_range'
     exact h1.sublist (filter_sublist.map _)
   have e4 : ∀ q ∈ q0, τ (1000000 + q.2) = hnd q.1 := by
     intro q hq; rw [hq0] at hq; obtain ⟨hi, hr⟩ := b7q (mem_filter.1 hq).1; rw [hH _ hi, hr]
   have e5 : q0.length <= rs.length := by rw [hq0]; exact Nat.le_trans (length_filter_le _ _) (by simp)
   rw [e1]; simp -implicitDefEqProofs [Y3, h9, h10, h11, h3, hlt, att, B0]; have e6 : ∀ a ∈ q0.map (fun q => nv q.1), a.2.length < 500000 := by
     intro a ha; rw [e2] at ha; have := a7C (mem_filter.1 ha).1; rw [a8d] at this; omega
   generalize hn0 : q0.map (fun q => nv q.1) = n0 at *; have hn0l : n0.length = q0.length := by rw [<- hn0]; simp
   refine F3 q0.length (fun k τ => τ 46 = .d (.int .i64 q0.length) /\ τ 47 = .d (.int .i64 k) /\ ∃ qs : List a7h, τ 3 = .own true 72 (qs.map q1) /\ c7y qs τ /\ qs.map (fun q => nv q.1) = (n0.take k).map a1X ++ n0.drop k) ?_ ?_
   . refine ⟨by simp, by simp, q0, by simp, ⟨e3, fun q hq => ?_⟩, by simp [hn0]⟩; simp [N3, K9, e4 q hq, hnd]
   clear h9 h10 h11 h3 hH hU hk hlt hf e4 τ hkl; rintro j τ hj ⟨h46, h47, qs, h3, ⟨hnd1, hnd2⟩, hqs⟩; have hql : qs.length = q0.length := by
     have := congrArg List.length hqs; simp at this; omega
   by_cases hlt : j < q0.length
   . have hjq : j < qs.length := (by omega); have hjn : j < n0.length := (by omega); have hvj : nv qs[j].1 = n0[j] := by
       have h1 : (qs.map (fun q => nv q.1))[j]? = some (nv qs[j].1) := by simp [hjq]
       rw [hqs, getElem?_append_right (by simp; omega)] at h1; simp [Nat.min_eq_left (Nat.le_of_lt hjn), hjn] at h1; exact h1.symm
     have hvl : qs[j].1.2.2.length < 500000 := by
       have := e6 n0[j] (gmm hjn); rw [<- hvj] at this; exact this
     have hnm := hnd2 qs[j] (gmm hjq); simp -implicitDefEqProofs [Y3, h46, h47, h3, hlt, hjq, q1, a1r, rw2, pr]; refine d0O (1000000 + qs[j].2) (e := 9) (l := qs[j].1.2.2.map .str) (by simp [N3, K9, hnm, hnd, hd]) (b1X qs[j].1.2.2 (by omega)) ?_; simp -implicitDefEqProofs [Y3, h46, h47, h3, hlt, hjq, q1, a1r, rw2, pr, N3, K9]; have hsl : (I3 qs[j].1.2.2).length = qs[j].1.2.2.length := (by simp [I3]); refine c8v (1000000 + qs[j].2) (e := 9) (l := (I3 qs[j].1.2.2).map .str) (by simp [N3, K9]) (b8q (I3 qs[j].1.2.2) (by omega)) (fun A c => ?_); simp -implicitDefEqProofs [Y3, h46, h47, h3, hlt, hjq, q1, a1r, rw2, pr, N3, K9]; refine ⟨by omega, B8 hlt ⟨by simp [h46, N3, K9], by simp [N3, K9], qs.set j ((qs[j].1.1, (A, (Go.Lib.compact (I3 qs[j].1.2.2)).length, c), Go.Lib.compact (I3 qs[j].1.2.2)), qs[j].2), ?_, ⟨?_, fun q hq => ?_⟩, ?_⟩⟩
     . simp [N3, K9, q1, a1r, rw2, pr, map_set]
     . rw [map_set]; have := set_getElem_self (i := j) (show j < (qs.map (·.2)).length by simpa using hjq); rw [getElem_map] at this; rw [this]; exact hnd1
     . obtain ⟨i, hi, rfl⟩ := mem_iff_getElem.1 hq; have hi' : i < qs.length := (by simpa using hi); by_cases hij : j = i
       . subst hij; simp [N3, K9, hnd, hd]
       . rw [getElem_set_ne hij]; have hne : ¬ qs[i].2 = qs[j].2 := fun e => by
           have h1 := pairwise_iff_getElem.1 hnd1; rcases Nat.lt_or_gt_of_ne hij with h2 | h2
           . exact h1 j i (by simpa using hjq) (by simpa using hi') h2 (by simpa using e.symm)
           . exact h1 i j (by simpa using hi') (by simpa using hjq) h2 (by simpa using e)
         simp [N3, K9, hnd2 qs[i] (gmm hi'), hne, hnd]
     . have hnn : nv ((qs[j].1.1, (A, (Go.Lib.compact (I3 qs[j].1.2.2)).length, c), Go.Lib.compact (I3 qs[j].1.2.2)) : Row) = a1X n0[j] := by
         rw [<- hvj]; rfl
       have hl1 : ((n0.take j).map a1X).length = j := by simp; omega
       rw [map_set, hqs, set_append_right _ _ (by omega), hl1, Nat.sub_self, drop_eq_getElem_cons hjn, set_cons_zero, hnn, <- map_take, F6 hjn]; simp only [map_append, map_cons, map_nil, append_assoc, singleton_append]
   . simp -implicitDefEqProofs [Y3, h46, h47, h3, hlt]; have hjl : j = n0.length := (by omega); subst hjl; rw [take_length, drop_length, append_nil] at hqs; have hmq : qs.map q1 = (qs.map fun q => pr q.1).map rw2 := by rw [map_map]; rfl
     rw [hmq]; refine b8a (c2j (qs.map fun q => pr q.1) (by simp; omega)) ?_; obtain ⟨p1, p2⟩ := a5W (qs.map fun q => pr q.1)
     replace p2 : c5J (Z0 (qs.map fun q => pr q.1)) := p2
     generalize Z0 (qs.map fun q => pr q.1) = ms at p1 p2 ⊢; obtain ⟨qs', p3, rfl⟩ := b9O (fun q : a7h => pr q.1) p1 qs rfl; have hlen' : qs'.length = qs.length := p3.length_eq; have hT : ∀ (qs : List a7h) (τ' : St), (∀ q ∈ qs, τ' (1000000 + q.2) = hnd q.1) -> (qs.map fun q => 1000000 + q.2).map τ' = (qs.map (·.1)).map hnd := by
       intro qs τ' h; rw [map_map, map_map]; exact map_congr_left h
     have hrow : (qs'.map fun q => pr q.1).map rw2 = qs'.map q1 := by rw [map_map]; rfl
     simp -implicitDefEqProofs [Y3, h46, h47, h3, hlt]; have hK : ∀ q ∈ qs', τ (1000000 + q.2) = hnd q.1 := fun q hq => hnd2 q (p3.mem_iff.1 hq)
     refine ⟨.own true 72 (qs'.map q1), qs'.map (fun q => 1000000 + q.2), ?_, fun k hk => ?_, ?_, qs'.map (·.1), ?_, ?_, ?_, ?_⟩
     . have h1 : (qs'.map (·.2)).Nodup := (p3.map _).nodup_iff.2 hnd1; have h2 := Pairwise.map (R := fun a b : Nat => a ≠ b) (S := fun a b : Nat => a ≠ b) (fun x => 1000000 + x) (fun a b h => by omega) h1; rw [map_map] at h2; exact h2
     . obtain ⟨q, hq, rfl⟩ := mem_map.1 hk; simp [N3, K9, hK q hq, hnd, isH]
     . simp [a0A, q1, a1r]
     . simp [q1]
     . rw [map_map, map_map]; refine map_congr_left fun q hq => ?_
       simp [N3, K9, hK q hq, hnd]
     . rw [map_map]; have h1 := p3.map (fun q : a7h => nv q.1); rw [hqs, e2] at h1; exact h1
     . intro i j hij hj; have := p2 i j hij (by simpa using hj); simpa [pr] using this
end Go.Proofs.Tz
namespace Go.Proofs.Tz
open Go.Vw Go.Lib
theorem bl (x y : Str) : Op.bytesLess x y = decide (x < y) := bytesLess_eq x y
theorem b8h {x y : Str} : Op.bytesLess x y = true ↔ x < y := by rw [bl]; simp
theorem a5r {x y : Str} : Op.bytesLess x y = false ↔ ¬ x < y := by rw [bl]; simp
theorem a0I (x : Str) : ¬ x < x := List.lt_irrefl x
theorem Z8 {x y z : Str} (h1 : x < y) (h2 : y < z) : x < z := List.lt_trans h1 h2
theorem a1f {x y : Str} (h1 : ¬ x < y) (h2 : ¬ y < x) : x = y := List.le_antisymm (List.not_lt.1 h2) (List.not_lt.1 h1)
def SS (l : List Str) : Prop := l.Pairwise (· < ·)
theorem SS.nodup {l : List Str} (h : SS l) : l.Nodup := Pairwise.imp (R := fun a b : Str => a < b) (S := fun a b : Str => a ≠ b) (fun hab e => by subst e; exact a0I _ hab) h
theorem a5C {a b : List Str} (ha : SS a) (hb : SS b) (h : ∀ x, x ∈ a ↔ x ∈ b) : a = b := by
 have hp : a.Perm b := (perm_ext_iff_of_nodup ha.nodup hb.nodup).2 h; exact hp.eq_of_pairwise (fun x y _ _ h1 h2 => absurd (Z8 h1 h2) (a0I x)) ha hb
def Y7 (s : Str) : List Str -> List Str
 | [] => [s]
 | x :: l => if x < s then x :: Y7 s l else if x = s then x :: l else s :: x :: l
theorem a9G (s : Str) : ∀ (l out : List Str), (∀ x ∈ l, s < x) -> l.foldl (P8 s) (true, out) = (true, out ++ l)
 | [], out, _ => by simp
 | x :: l, out, h => by
   have hx := h x (by simp); have hne : ¬ x = s := fun e => a0I s (e ▸ hx)
   have : P8 s (true, out) x = (true, out ++ [x]) := (by simp [P8, hne]); rw [foldl_cons, this, a9G s l _ (fun y hy => h y (by simp [hy]))]; simp
theorem b9H (s : Str) : ∀ (l out : List Str), SS l -> (l.foldl (P8 s) (false, out)).2 ++ (if (l.foldl (P8 s) (false, out)).1 then [] else [s]) = out ++ Y7 s l
 | [], out, _ => by simp [Y7]
 | x :: l, out, h => by
   have hp := pairwise_cons.1 h; rw [foldl_cons, Y7]; by_cases hx : x < s
   . have hne : ¬ x = s := fun e => a0I s (e ▸ hx)
     have : P8 s (false, out) x = (false, out ++ [x]) := (by simp [P8, b8h.2 hx, hne]); rw [this, b9H s l _ hp.2, if_pos hx]; simp
   . rw [if_neg hx]; by_cases he : x = s
     . subst he; have : P8 x (false, out) x = (true, out ++ [x]) := (by simp [P8, a5r.2 hx]); rw [this, a9G x l _ hp.1, if_pos rfl]; simp
     . have hs : s < x := Classical.byContradiction fun h2 => he (a1f hx h2)
       have : P8 s (false, out) x = (true, out ++ [s] ++ [x]) := (by simp [P8, a5r.2 hx, he]); rw [this, a9G s l _ (fun y hy => Z8 hs (hp.1 y hy)), if_neg he]; simp
theorem c0Y {l : List Str} (h : SS l) (s : Str) : ins l s = Y7 s l := by
 have := b9H s l [] h; rw [nil_append] at this; exact this
theorem a6W (s : Str) : ∀ (l : List Str) (x : Str), x ∈ Y7 s l ↔ x = s \/ x ∈ l
 | [], x => by simp [Y7]
 | y :: l, x => by
   rw [Y7]; split
   . simp only [mem_cons, a6W s l x]; constructor
     . rintro (h | h | h) <;> simp [h]
     . rintro (h | h | h) <;> simp [h]
   . split
     . rename_i h; subst h; simp
     . simp
theorem b1D (s : Str) : ∀ (l : List Str), SS l -> SS (Y7 s l)
 | [], _ => by simp [Y7, SS]
 | y :: l, h => by
   have hp := pairwise_cons.1 h; rw [Y7]; split
   . rename_i hy
     refine pairwise_cons.2 ⟨fun z hz => ?_, b1D s l hp.2⟩; rcases (a6W s l z).1 hz with rfl | hz
     . exact hy
     . exact hp.1 z hz
   . rename_i hy
     split
     . exact h
     . rename_i he
       have hs : s < y := Classical.byContradiction fun h2 => he (a1f hy h2)
       refine pairwise_cons.2 ⟨fun z hz => ?_, h⟩; rcases mem_cons.1 hz with rfl | hz
       . exact hs
       . exact Z8 hs (hp.1 z hz)
theorem b7t {l : List Str} (h : SS l) (s x : Str) : x ∈ ins l s ↔ x = s \/ x ∈ l := by rw [c0Y h]; exact a6W s l x
theorem c1s {l : List Str} (h : SS l) (s : Str) : SS (ins l s) := by rw [c0Y h]; exact b1D s l h
theorem a9l : ∀ (vs l : List Str), SS l -> SS (vs.foldl ins l) /\ ∀ x, x ∈ vs.foldl ins l ↔ x ∈ l \/ x ∈ vs
 | [], l, h => ⟨h, fun x => by simp⟩
 | v :: vs, l, h => by
   have := a9l vs (ins l v) (c1s h v); refine ⟨this.1, fun x => ?_⟩; rw [foldl_cons, this.2, b7t h]; simp only [mem_cons]; constructor
   . rintro ((h | h) | h) <;> simp [h]
   . rintro (h | h | h) <;> simp [h]
theorem a0V : ∀ (l : List Att) (ns : List Str), SS ns -> SS (l.foldl Y0 ns) /\ ∀ x, x ∈ l.foldl Y0 ns ↔ x ∈ ns \/ ∃ a ∈ l, a.2 ≠ [] /\ D2 a.1 = x
 | [], ns, h => ⟨h, fun x => by simp⟩
 | a :: l, ns, h => by
   rw [foldl_cons]; by_cases ha : a.2 = []
   . rw [Y0, if_pos ha]; have := a0V l ns h; refine ⟨this.1, fun x => ?_⟩; rw [this.2]; simp [ha]
   . rw [Y0, if_neg ha]; have := a0V l (ins ns (D2 a.1)) (c1s h _); refine ⟨this.1, fun x => ?_⟩; rw [this.2, b7t h]; simp only [mem_cons, exists_eq_or_imp, ne_eq, ha, not_false_eq_true, true_and]; constructor
     . rintro ((h | h) | h)
       . exact .inr (.inl h.symm)
       . exact .inl h
       . exact .inr (.inr h)
     . rintro (h | h | h)
       . exact .inl (.inr h)
       . exact .inl (.inl h.symm)
       . exact .inr h
theorem a0N (n : Str) : ∀ (l : List Att) (vs : List Str), SS vs -> SS (l.foldl (a0O n) vs) /\ ∀ x, x ∈ l.foldl (a0O n) vs ↔ x ∈ vs \/ ∃ a ∈ l, D2 a.1 = n /\ x ∈ a.2
 | [], vs, h => ⟨h, fun x => by simp⟩
 | a :: l, vs, h => by
   rw [foldl_cons]; by_cases ha : D2 a.1 = n
   . rw [a0O, if_pos ha]; have h1 := a9l a.2 vs h; have := a0N n l _ h1.1; refine ⟨this.1, fun x => ?_⟩; rw [this.2, h1.2]; simp only [mem_cons, exists_eq_or_imp, ha, true_and]; constructor
     . rintro ((h | h) | h) <;> simp [h]
     . rintro (h | h | h) <;> simp [h]
   . rw [a0O, if_neg ha]; have := a0N n l vs h; refine ⟨this.1, fun x => ?_⟩; rw [this.2]; simp [ha]
theorem a4S (l : List Str) : (I3 l).Pairwise fun x y => ¬ y < x := by
 have h := pairwise_mergeSort (le := fun x y : Str => decide (x <= y)) (fun a b c h1 h2 => by
   simp only [decide_eq_true_eq] at *; exact List.le_trans h1 h2) (fun a b => by
   simp only [Bool.or_eq_true, decide_eq_true_eq]; exact List.le_total a b) l
 exact h.imp fun h => by simpa using h
theorem b2S (l : List Str) (x : Str) : x ∈ I3 l ↔ x ∈ l := by simp [I3]
theorem a7V (zs : List Str) (h : zs.Pairwise fun x y => ¬ y < x) : ∀ m, m <= zs.length -> SS (compactUpTo zs.toArray m) /\ ∀ x, x ∈ compactUpTo zs.toArray m ↔ x ∈ zs.take m
 | 0, _ => by simp [compactUpTo, SS]
 | m + 1, hm => by
   obtain ⟨h1, h2⟩ := a7V zs h m (by omega); have hlt : m < zs.length := (by omega); have hg : zs.toArray[m]! = zs[m] := by rw [getElem!_pos _ m (by simpa using hlt)]; simp
   have asc : ∀ i (hi : i < m), ¬ zs[m] < zs[i]'(by omega) := fun i hi => pairwise_iff_getElem.1 h i m (by omega) hlt hi
   rw [compactUpTo_succ, hg, F6 hlt]; by_cases hk : keeps zs.toArray m = true
   . rw [if_pos hk]; refine ⟨pairwise_append.2 ⟨h1, by simp, fun x hx y hy => ?_⟩, fun x => by rw [mem_append, mem_append, h2 x]⟩; rw [mem_singleton.1 hy]; obtain ⟨i, hi, rfl⟩ := mem_iff_getElem.1 ((h2 x).1 hx); have him : i < m := by simp at hi; omega
     simp only [getElem_take]; have hm0 : m ≠ 0 := (by omega); have hg1 : zs.toArray[m - 1]! = zs[m - 1] := by rw [getElem!_pos _ (m - 1) (by simp; omega)]; simp
     have hne : zs[m] ≠ zs[m - 1] := (by simpa [keeps, hm0, hg, hg1] using hk); have hlt2 : zs[m - 1] < zs[m] := Classical.byContradiction fun hc => hne (a1f (asc (m - 1) (by omega)) hc)
     by_cases hc : zs[i] < zs[m - 1]
     . exact Z8 hc hlt2
     . by_cases hie : i = m - 1
       . subst hie; exact hlt2
       . have := pairwise_iff_getElem.1 h i (m - 1) (by omega) (by omega) (by omega); rw [a1f hc this]; exact hlt2
   . rw [if_neg hk, append_nil]; refine ⟨h1, fun x => ?_⟩; rw [h2 x]; have hk' : keeps zs.toArray m = false := (by simpa using hk); have hm0 : m ≠ 0 := fun e => by subst e; simp [keeps] at hk'
     have hg1 : zs.toArray[m - 1]! = zs[m - 1] := by rw [getElem!_pos _ (m - 1) (by simp; omega)]; simp
     have he : zs[m] = zs[m - 1] := (by simpa [keeps, hm0, hg, hg1] using hk'); have hin : zs[m] ∈ zs.take m := by
       rw [he]; exact mem_iff_getElem.2 ⟨m - 1, by simp; omega, by simp⟩
     simp only [mem_append, mem_singleton]; constructor
     . intro hx; exact .inl hx
     . rintro (hx | rfl)
       . exact hx
       . exact hin
theorem c7p (vs : List Str) : SS (compact (I3 vs)) /\ ∀ x, x ∈ compact (I3 vs) ↔ x ∈ vs := by
 have h := a7V (I3 vs) (a4S vs) (I3 vs).length (Nat.le_refl _); refine ⟨h.1, fun x => ?_⟩; rw [<- b2S vs x]; have := h.2 x; rw [take_length] at this; exact this
theorem b7v {α : Type} (p : α -> Bool) : ∀ (l : List α) (k : Nat), W3 p k l ≠ -1 -> ∃ i : Nat, W3 p k l = ((k + i : Nat) : Int) /\ ∃ h : i < l.length, p l[i] = true
 | [], k, h => absurd rfl h
 | x :: l, k, h => by
   rw [W3] at h ⊢; by_cases hx : p x = true
   . rw [if_pos hx]; exact ⟨0, by simp, by simp, hx⟩
   . rw [if_neg hx] at h ⊢; obtain ⟨i, h1, h2, h3⟩ := b7v p l (k + 1) h; exact ⟨i + 1, by rw [h1]; omega, by simpa using h2, by simpa using h3⟩
def Has (l : List Att) (n v : Str) : Prop := ∃ x ∈ l, x.1 = n /\ v ∈ x.2
theorem c0g (acc : List Att) (a : Att) (hn : (acc.map (·.1)).Nodup) : ((a1j acc a).map (·.1)).Nodup /\ ∀ n v, Has (a1j acc a) n v ↔ Has acc n v \/ (D2 a.1 = n /\ v ∈ a.2) := by
 unfold a1j; split
 . rename_i h
   have hf := a9S _ acc 0 h; have hno : ∀ x ∈ acc, ¬ x.1 = D2 a.1 := fun x hx => by
     have := filter_eq_self.1 hf x hx; simpa using this
   refine ⟨?_, fun n v => ?_⟩
   . rw [map_append, nodup_append]; refine ⟨hn, by simp, ?_⟩; intro x hx y hy e; simp at hy; obtain ⟨z, hz, rfl⟩ := mem_map.1 hx; exact hno z hz (e.trans hy)
   . simp only [Has, mem_append, mem_singleton]; constructor
     . rintro ⟨x, hx | rfl, h1, h2⟩
       . exact .inl ⟨x, hx, h1, h2⟩
       . exact .inr ⟨h1, h2⟩
     . rintro (⟨x, hx, h1, h2⟩ | ⟨h1, h2⟩)
       . exact ⟨x, .inl hx, h1, h2⟩
       . exact ⟨_, .inr rfl, h1, h2⟩
 . rename_i h
   obtain ⟨i, h1, hi, h3⟩ := b7v _ acc 0 h; simp only [Nat.zero_add] at h1; simp only [decide_eq_true_eq] at h3; rw [h1, Int.toNat_natCast, a6N (fun x : Att => (x.1, x.2 ++ a.2)) acc i acc[i] (getElem?_eq_getElem hi)]; refine ⟨?_, fun n v => ?_⟩
   . rw [map_set]; have := set_getElem_self (i := i) (show i < (acc.map (·.1)).length by simpa using hi); rw [getElem_map] at this; rw [this]; exact hn
   . simp only [Has]; constructor
     . rintro ⟨x, hx, e1, e2⟩; obtain ⟨j, hj, rfl⟩ := mem_iff_getElem.1 hx; have hj' : j < acc.length := (by simpa using hj); by_cases hij : i = j
       . subst hij; rw [getElem_set_self] at e1 e2; simp only [mem_append] at e1 e2; rcases e2 with e2 | e2
         . exact .inl ⟨_, gmm hi, e1, e2⟩
         . exact .inr ⟨h3.symm.trans e1, e2⟩
       . rw [getElem_set_ne hij] at e1 e2; exact .inl ⟨_, gmm hj', e1, e2⟩
     . rintro (⟨x, hx, e1, e2⟩ | ⟨e1, e2⟩)
       . obtain ⟨j, hj, rfl⟩ := mem_iff_getElem.1 hx; by_cases hij : i = j
         . subst hij; refine ⟨_, mem_iff_getElem.2 ⟨i, by simpa using hi, getElem_set_self _⟩, e1, by simp [e2]⟩
         . exact ⟨_, mem_iff_getElem.2 ⟨j, by simpa using hj, getElem_set_ne hij _⟩, e1, e2⟩
       . exact ⟨_, mem_iff_getElem.2 ⟨i, by simpa using hi, getElem_set_self _⟩, h3.trans e1, by simp [e2]⟩
theorem c2w (l : List Att) : ((grp l).map (·.1)).Nodup /\ ∀ n v, Has (grp l) n v ↔ ∃ a ∈ l, D2 a.1 = n /\ v ∈ a.2 := by
 have key : ∀ (l acc : List Att), (acc.map (·.1)).Nodup -> ((l.foldl a1j acc).map (·.1)).Nodup /\ ∀ n v, Has (l.foldl a1j acc) n v ↔ Has acc n v \/ ∃ a ∈ l, D2 a.1 = n /\ v ∈ a.2 := by
   intro l
   induction l with
   | nil => intro acc h; exact ⟨h, fun n v => by simp⟩
   | cons a l ih =>
     intro acc h; have h1 := c0g acc a h; have h2 := ih _ h1.1; refine ⟨h2.1, fun n v => ?_⟩; rw [foldl_cons, h2.2, h1.2]; simp only [mem_cons, exists_eq_or_imp, or_assoc]
 have := key l [] (by simp); exact ⟨this.1, fun n v => by rw [show grp l = l.foldl a1j [] from rfl, this.2]; simp [Has]⟩
theorem b2P (l out : List Att) (hp : out.Perm (((grp l).filter a3D).map a1X)) (hs : ∀ i j (_ : i < j) (hj : j < out.length), Op.bytesLess out[j].1 (out[i]'(by omega)).1 = false) : out = G5 l := by
 obtain ⟨g1, g2⟩ := c2w l; have hnames : (out.map (·.1)).Perm (((grp l).filter a3D).map (·.1)) := by
   have := hp.map (·.1); rw [map_map] at this; exact this
 have hnd : (out.map (·.1)).Nodup := hnames.nodup_iff.2 (g1.sublist (filter_sublist.map _)); have hSS : SS (out.map (·.1)) := by
   refine pairwise_iff_getElem.2 fun i j hi hj hij => ?_
   have hj' : j < out.length := (by simpa using hj); have h1 := hs i j hij hj'; rw [a5r] at h1; simp only [getElem_map]; refine Classical.byContradiction fun hc => ?_
   have he := a1f hc h1; exact pairwise_iff_getElem.1 hnd i j hi hj hij (by simpa using he)
 have hN := a0V l [] (by simp [SS]); have e1 : out.map (·.1) = W7 l := by
   refine a5C hSS hN.1 fun n => ?_
   rw [hnames.mem_iff, show W7 l = l.foldl Y0 [] from rfl, hN.2]; simp only [mem_map, mem_filter, not_mem_nil, false_or]; constructor
   . rintro ⟨x, ⟨hx, hne⟩, rfl⟩; have hne' : x.2 ≠ [] := (by simpa [a3D] using hne); obtain ⟨v, hv⟩ := exists_mem_of_ne_nil _ hne'; obtain ⟨a, ha, e, hav⟩ := (g2 x.1 v).1 ⟨x, hx, rfl, hv⟩; exact ⟨a, ha, ne_nil_of_mem hav, e⟩
   . rintro ⟨a, ha, hne, e⟩; obtain ⟨v, hv⟩ := exists_mem_of_ne_nil _ hne; obtain ⟨x, hx, e2, hxv⟩ := (g2 n v).2 ⟨a, ha, e, hv⟩; exact ⟨x, ⟨hx, by simp [a3D]; exact ne_nil_of_mem hxv⟩, e2⟩
 have e2 : ∀ x ∈ out, x.2 = a0u l x.1 := by
   intro x hx; obtain ⟨y, hy, rfl⟩ := mem_map.1 (hp.mem_iff.1 hx); have hyg := (mem_filter.1 hy).1; have hv := c7p y.2; have hV := a0N y.1 l [] (by simp [SS]); refine a5C hv.1 hV.1 fun v => ?_
   rw [show a0u l (a1X y).1 = l.foldl (a0O y.1) [] from rfl, hV.2]; refine (hv.2 v).trans ?_; simp only [not_mem_nil, false_or]; rw [<- g2 y.1 v]; constructor
   . intro h; exact ⟨y, hyg, rfl, h⟩
   . rintro ⟨z, hz, e, h⟩; obtain ⟨i, hi, rfl⟩ := mem_iff_getElem.1 hz; obtain ⟨j, hj, rfl⟩ := mem_iff_getElem.1 hyg; have hij : i = j := by
       have h1 := pairwise_iff_getElem.1 g1; rcases Nat.lt_trichotomy i j with h2 | h2 | h2
       . have h3 := h1 i j (by simpa using hi) (by simpa using hj) h2; simp only [getElem_map] at h3; exact absurd e h3
       . exact h2
       . have h3 := h1 j i (by simpa using hj) (by simpa using hi) h2; simp only [getElem_map] at h3; exact absurd e.symm h3
     subst hij; exact h
 have e3 : out = out.map fun x => (x.1, a0u l x.1) := by
   conv => lhs; rw [<- map_id' out]
   refine map_congr_left fun x hx => ?_
   rw [<- e2 x hx]
 rw [e3, G5, <- e1, map_map]; rfl
end Go.Proofs.Tz