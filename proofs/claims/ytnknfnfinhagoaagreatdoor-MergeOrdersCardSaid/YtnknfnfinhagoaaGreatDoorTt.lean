/-
  What the functions that the statements about merged states reach compute, part 3 of 6, for data of bounded size (each theorem states its bound).
-/import Derived.Test.YtnknfnfinhagoaaGreatDoorTs
import Derived.Test.YtnknfnfinhagoaaGreatDoorTr
import Derived.Lib.MakeNoZero
import Derived.Laws.IdiomCopy
import Derived.Test.YtnknfnfinhagoaaGreatDoorWo
import Derived.Sort.Walk0
import Derived.Shelf.SlSortCmp.WholeK
import Derived.Shelf.SlSortCmp.Whole1
import Derived.Shelf.SlSortCmp.NoneTotal
import Derived.Shelf.SlicesG.Cmp
import Derived.Shelf.SlicesG.CompactS
import Derived.Shelf.SlicesG.Delete
import Derived.Shelf.SortM.Plain
import Derived.Shelf.SortM.SortNone
import Derived.Shelf.SlLaysM
import Derived.Shelf.SlLaysF
import Derived.Shelf.SlLaysF0
import Derived.Shelf.SlLaysN
import Derived.Shelf.SlLaysW
import Derived.Shelf.SlLaysZ
import Derived.Shelf.SlGeneric
import Derived.Ground.SlgmProg
import Derived.Ground.SlgnProg
import Derived.Ground.SlsfProg
import Derived.Ground.SlmcProg
import Derived.Ground.GgzProg
import Derived.Test.YtnknfnfinhagoaaGreatDoorProg
import Derived.WalkKit
import Derived.Lib.RowBridge
open List
open Go.Proofs.Tryz
set_option linter.unusedSimpArgs false
set_option linter.unusedVariables false
set_option maxRecDepth 100000
set_option maxHeartbeats 8000000
namespace Go.Proofs.Tz
open Go.Vw Go.RowKit Go.Proofs
def a8O (l : List G3) : Prop := l.length < 1000000 ∧ ∀ p ∈ l, length p.1 < 1000000 ∧ length p.2 < 1000000
theorem b7g {l : List G3} {k : Nat} (h : k < l.length) : a0E (l.drop k) = if V9 l[k] = 0 then a0E (l.drop (k + 1)) else V9 l[k] := by
 rw [a2C h]; rfl
theorem b0w {p : G3} : V9 p = 0 ↔ U1 p.1 = true ∧ S3 p.2 = true := by
 unfold V9; by_cases h1 : U1 p.1 = true <;> by_cases h2 : S3 p.2 = true <;> simp [h1, h2]
theorem a8a {s : Str} (h : U1 s = true) : s.length ≤ 64 := by
 simp only [U1, Bool.and_eq_true, decide_eq_true_eq] at h; exact h.1.1.2
theorem a6O {s : Str} (h : S3 s = true) : s.length ≤ 256 := by
 simp only [S3, Bool.and_eq_true, decide_eq_true_eq] at h; exact h.1.1.1.2
theorem c0t (l : List G3) (hl : a8O l) : Ctr prog 166 [.d (K7 l)] (.d (.int .i64 (a0c l))) := by
 refine fv (fun _ => false) func166 (by kernel_rfl) rfl rfl rfl rfl rfl ?_; obtain ⟨R, hR⟩ : ∃ R, a0c l = R := ⟨_, rfl⟩; rw [hR]; have hl1 := hl.1; simp -implicitDefEqProofs [K7]; refine G7 l.length (fun k τ => τ 0 = .d (.sl (l.map P2)) ∧ τ 5 = .d (.sl (l.map P2)) ∧ τ 6 = .d (.int .i64 l.length) ∧ τ 7 = .d (.int .i64 k) ∧ a0E l = a0E (l.drop k)) ⟨by simp, by simp, by simp, by simp, by simp⟩ ?_; rintro k τ hk ⟨h0, h5, h6, h7, hI⟩; by_cases hlt : k < l.length
 · have hlt' : (k : Int) < l.length := (by omega); obtain ⟨f1, f2⟩ := hl.2 l[k] (gmm hlt); rw [b7g hlt] at hI; generalize hp : l[k] = p at *; obtain ⟨n, v⟩ := p; have c1 := b0J n f1; have c2 := a8f v f2; rw [a7B] at c2; simp -implicitDefEqProofs [h0, h5, h6, h7, hlt, hlt', hp, P2]; refine A3 c1 ?_; by_cases hn : U1 n = true
   · simp -implicitDefEqProofs [h0, h5, h6, h7, hn]; refine A3 c2 ?_; by_cases hc : S3 v = true
     · have e : V9 (n, v) = 0 := b0w.2 ⟨hn, hc⟩; rw [if_pos e] at hI; simp -implicitDefEqProofs [h0, h5, h6, h7, hc]; (repeat refine ai (by omega) ?_); exact D5 hlt ⟨by simp [h0], by simp [h5], by simp [h6], by simp, hI⟩
     · have e : V9 (n, v) = 8 := (by simp [V9, hn, hc]); rw [e, if_neg (by omega)] at hI; have hq : R = 8 := by rw [← hR, a0c, hI, if_neg (by omega)]
       simp -implicitDefEqProofs [h0, h5, h6, h7, hc, hq]
   · have e : V9 (n, v) = 5 := (by simp [V9, hn]); rw [e, if_neg (by omega)] at hI; have hq : R = 5 := by rw [← hR, a0c, hI, if_neg (by omega)]
     simp -implicitDefEqProofs [h0, h5, h6, h7, hn, hq]
 · have hlt' : ¬ (k : Int) < l.length := (by omega); rw [drop_eq_nil_of_le (by omega), a0E] at hI; rw [a0c, if_pos hI] at hR; by_cases h8 : 8 < l.length
   · have h8' : (8 : Int) < l.length := (by omega); rw [if_pos h8] at hR; simp -implicitDefEqProofs [h0, h5, h6, h7, hlt', h8', ← hR]
   · have h8' : ¬ (8 : Int) < l.length := (by omega); rw [if_neg h8] at hR; simp -implicitDefEqProofs [h0, h5, h6, h7, hlt', h8', ← hR]
theorem b1Q (c : UInt8) (p : Str) : ∀ (l : List Str), D8 c (l ++ [p]) = if l = [] then p else D8 c l ++ c :: p
 | [] => rfl
 | [q] => rfl
 | q :: r :: l => by
   have ih := b1Q c p (r :: l); rw [if_neg (by simp)] at ih; rw [if_neg (by simp)]; have e1 : D8 c (q :: r :: l ++ [p]) = q ++ c :: D8 c (r :: l ++ [p]) := rfl; have e2 : D8 c (q :: r :: l) = q ++ c :: D8 c (r :: l) := rfl; rw [e1, e2, ih]; simp
def a1T (l : List G3) (k : Nat) : Str := D8 44 ((l.take k).map W5)
def a1B (l : List G3) (k : Nat) (n : Str) : Str := (if k = 0 then [] else a1T l k ++ [44]) ++ (D9 n ++ [61])
theorem a8b (l : List G3) : a1T l 0 = [] := by simp [a1T, D8]
theorem b4f {l : List G3} {k : Nat} (h : k < l.length) : a1T l (k + 1) = a1B l k l[k].1 ++ S2 (Y0 l[k].2) := by
 rw [a1T, F6 h, map_append, map_cons, map_nil, b1Q, a1B, a1T]; by_cases hk : k = 0
 · subst hk; simp [W5]
 · rw [if_neg hk, if_neg]
   · simp [W5]
   · intro e; have := congrArg length e; simp only [length_map, length_take, length_nil] at this; omega
theorem c4G (l : List G3) {k : Nat} (h : ¬ k < l.length) : a1T l k = D8 44 (l.map W5) := by
 have e : l.take k = l := ttl (by omega); rw [a1T, e]
theorem c0r (a : Str) (c : UInt8) : S2 (a ++ [c]) = S2 a ++ (if X1 c = true then [92, c] else [c]) := by simp [S2]
theorem b4m {s : Str} {k : Nat} (h : k < s.length) : S2 (s.take (k + 1)) = S2 (s.take k) ++ (if X1 s[k] = true then [92, s[k]] else [s[k]]) := by rw [F6 h, c0r]
theorem b0j (s : Str) : (S2 s).length ≤ 2 * s.length := by
 induction s with
 | nil => simp [S2]
 | cons c s ih =>
   have e : S2 (c :: s) = (if X1 c = true then [92, c] else [c]) ++ S2 s := (by simp [S2]); rw [e, length_append, length_cons]; split <;> simp <;> omega
theorem b5a {l : List G3} : ∀ {k : Nat}, k ≤ l.length → (∀ p ∈ l.take k, V9 p = 0) → (a1T l k).length ≤ 600 * k
 | 0, _, _ => by simp [a8b]
 | k + 1, hk, h => by
   have hlt : k < l.length := (by omega); have ih := b5a (l := l) (k := k) (by omega) (fun p hp => h p (by rw [F6 hlt, mem_append]; exact .inl hp)); have hp := b0w.1 (h l[k] (by rw [F6 hlt, mem_append]; exact .inr (by simp))); have a1 := a8a hp.1; have a2 := a6O hp.2; have a3 := b0j (Y0 l[k].2); have a4 := b3X l[k].2; rw [b4f hlt, length_append, a1B, length_append, length_append, T4]; split
   · simp; omega
   · simp; omega
theorem c4x {l : List G3} {k : Nat} {n : Str} (h : (a1T l k).length ≤ 600 * k) (hn : n.length ≤ 64) : (a1B l k n).length ≤ 600 * k + 66 := by
 rw [a1B, length_append, length_append, T4]; split
 · simp; omega
 · simp; omega
theorem a7v (l : List G3) (hl : a8O l) : Ctr prog 120 [.d (K7 l)] (.tup [.d (.str (I2 l).1), .d (.int .i64 (I2 l).2)]) := by
 refine O0 (rv := .tmp 2) (rs := [.tmp 3]) (r := .d (.str (I2 l).1)) (ys := [.d (.int .i64 (I2 l).2)]) (fun i => i == 1000005 || i == 5000024 || i == 5000028 || i == 5000029 || i == 5000042 || i == 5000046 || i == 5000049) (by kernel_rfl) func120 (by kernel_rfl) rfl rfl (by simp) (nbl rfl) (by kernel_rfl) rfl rfl ?_; have c0 := c0t l hl; simp only [K7] at c0 ⊢; simp -implicitDefEqProofs; refine A3 c0 ?_; by_cases hc : a0c l = 0
 case neg =>
   simp -implicitDefEqProofs [hc, I2]
 have hF : I2 l = (D8 44 (l.map W5), 0) := by rw [I2, if_pos hc]
 rw [hF]; have hE : ∀ p ∈ l, V9 p = 0 := a3E.1 (by
   unfold a0c at hc; split at hc
   · assumption
   · rename_i h; exact absurd hc h)
 have h8 : l.length ≤ 8 := by
   unfold a0c at hc; split at hc
   · split at hc
     · omega
     · omega
   · rename_i h; exact absurd hc h
 simp -implicitDefEqProofs [hc]; refine b4M 1000000 1000001 5 (by simp) (by kernel_rfl) (by simp) (by simp) (fun b => ?_); simp -implicitDefEqProofs; refine G7 l.length (fun k τ => τ 15 = .d (.sl (l.map P2)) ∧ τ 16 = .d (.int .i64 l.length) ∧ τ 17 = .d (.int .i64 k) ∧ τ 5 = .d (.raw (va b)) ∧ a9d τ b (a1T l k)) ?_ ?_
 · exact ⟨by simp, by simp, by simp, by simp, .nilp, .slice none 0 0, .inl rfl, by simp [b4C], by simp [a8b, D7]⟩
 rintro k τ hk ⟨h15, h16, h17, h5, p, hd, hp, hb, hh⟩; have hbl := b5a (l := l) hk (fun p hp => hE p (mem_of_mem_take hp)); by_cases hlt : k < l.length
 · obtain ⟨f1, f2⟩ := hl.2 l[k] (gmm hlt); obtain ⟨g1, g2⟩ := b0w.1 (hE l[k] (gmm hlt)); have hlt' : (k : Int) < l.length := (by omega); have hs := b4f hlt; have hr : ∃ r, l[k] = r := ⟨_, rfl⟩; obtain ⟨r, hr⟩ := hr; rw [hr] at f1 f2 g1 g2 hs; obtain ⟨n, v⟩ := r; simp only at f1 f2 g1 g2 hs; have a1 := a8a g1; have a2 := a6O g2; have a4 := b3X v; have c1 := a2z n f1; have c2 := c3W v f2; have hpl := c4x (n := n) hbl a1; have hll := T4 n; have key : ∀ (τ : St) (hd : Value) (p : D), (p = .nilp ∨ p = .raw (va b)) → True := fun _ _ _ _ => trivial
   by_cases hk0 : k = 0
   · have hP : a1B l k n = D9 n ++ [61] := by rw [a1B, if_pos hk0]; rfl
     have z0 : ¬ (0 : Int) < (k : Int) := (by omega); have z1 : ¬ 0 < k := (by omega); have e0 : a1T l k = [] := by rw [hk0, a8b]
     rw [e0] at hh; simp -implicitDefEqProofs [h15, h16, h17, h5, hlt, hlt', hr, P2, z0, z1]; refine A3 c1 ?_; simp -implicitDefEqProofs [h15, h16, h17, h5]; refine M9 [1000000, 1000001] 1000000 (a0H (s := []) (hd := hd) hp (D9 n) (by simp [T4]; omega)) (by simp [hb, hh]) rfl (by simp) ?_; rintro r hs' ⟨hd1, rfl⟩; simp -implicitDefEqProofs [h15, h16, h17, h5, C6, D2]; refine M9 [1000000, 1000001] 1000000 (J8 (b := b) (s := D9 n) (hd := hd1) (.inr rfl) 61 (by omega)) (by simp) rfl (by simp) ?_; rintro r hs' ⟨hd2, rfl⟩; simp -implicitDefEqProofs [h15, h16, h17, h5, C6, D2]; refine A3 c2 ?_; generalize Y0 v = w at *; simp -implicitDefEqProofs [h15, h16, h17, h5]; refine G7 w.length (fun i τ => τ 15 = .d (.sl (l.map P2)) ∧ τ 16 = .d (.int .i64 l.length) ∧ τ 17 = .d (.int .i64 k) ∧ τ 5 = .d (.raw (va b)) ∧ τ 8 = .d (.str w) ∧ τ 34 = .d (.int .i64 w.length) ∧ τ 35 = .d (.int .i64 i) ∧ a9d τ b (a1B l k n ++ S2 (w.take i))) ?_ ?_
     · exact ⟨by simp [h15], by simp [h16], by simp [h17], by simp [h5], by simp, by simp, by simp, .raw (va b), hd2, .inr rfl, by simp, by simp [hP, S2, D7]⟩
     clear h15 h16 h17 h5 hb hh hp hd p hd1 hd2 τ; rintro i τ hi ⟨h15, h16, h17, h5, h8, h34, h35, p, hd, hp, hb, hh⟩; by_cases hil : i < length w
     · have hil' : (i : Int) < w.length := (by omega); have hs2 := b4m hil; have hel := b0j (w.take i); rw [length_take] at hel; by_cases h6 : X1 w[i] = true
       · rw [if_pos h6] at hs2; simp -implicitDefEqProofs [h15, h16, h17, h5, h8, h34, h35, hil, hil']; refine A3 (a0p w[i]) ?_; simp -implicitDefEqProofs [h15, h16, h17, h5, h8, h34, h35, hil, hil', h6]; refine M9 [1000000, 1000001] 1000000 (J8 (s := a1B l k n ++ S2 (w.take i)) (hd := hd) hp 92 (by simp; omega)) (by simp [hb, hh]) rfl (by simp) ?_; rintro r hs' ⟨hd1, rfl⟩; simp -implicitDefEqProofs [h15, h16, h17, h5, h8, h34, h35, hil, hil', C6, D2]; refine M9 [1000000, 1000001] 1000000 (J8 (b := b) (s := a1B l k n ++ S2 (w.take i) ++ [92]) (hd := hd1) (.inr rfl) w[i] (by simp; omega)) (by simp) rfl (by simp) ?_; rintro r hs' ⟨hd2, rfl⟩; simp -implicitDefEqProofs [h15, h16, h17, h5, h8, h34, h35, hil, hil', C6, D2]; (repeat refine ai (by omega) ?_); exact D5 hil ⟨by simp [h15], by simp [h16], by simp [h17], by simp [h5], by simp [h8], by simp [h34], by simp, .raw (va b), hd2, .inr rfl, by simp, by simp [hs2]⟩
       · rw [if_neg h6] at hs2; simp -implicitDefEqProofs [h15, h16, h17, h5, h8, h34, h35, hil, hil']; refine A3 (a0p w[i]) ?_; simp -implicitDefEqProofs [h15, h16, h17, h5, h8, h34, h35, hil, hil', h6]; refine M9 [1000000, 1000001] 1000000 (J8 (s := a1B l k n ++ S2 (w.take i)) (hd := hd) hp w[i] (by simp; omega)) (by simp [hb, hh]) rfl (by simp) ?_; rintro r hs' ⟨hd1, rfl⟩; simp -implicitDefEqProofs [h15, h16, h17, h5, h8, h34, h35, hil, hil', C6, D2]; (repeat refine ai (by omega) ?_); exact D5 hil ⟨by simp [h15], by simp [h16], by simp [h17], by simp [h5], by simp [h8], by simp [h34], by simp, .raw (va b), hd1, .inr rfl, by simp, by simp [hs2]⟩
     · have hil' : ¬ (i : Int) < w.length := (by omega); rw [ttl (by omega)] at hh; simp -implicitDefEqProofs [h15, h16, h17, h5, h8, h34, h35, hil, hil']; (repeat refine ai (by omega) ?_); exact D5 hlt ⟨by simp [h15], by simp [h16], by simp, by simp [h5], p, hd, hp, by simp [hb], by simp [hs, hh]⟩
   · have hP : a1B l k n = a1T l k ++ [44] ++ (D9 n ++ [61]) := by rw [a1B, if_neg hk0]
     have z0 : (0 : Int) < (k : Int) := (by omega); have z1 : 0 < k := (by omega); have z2 : ¬ k = 0 := hk0; simp -implicitDefEqProofs [h15, h16, h17, h5, hlt, hlt', hr, P2, z0, z1]; refine M9 [1000000, 1000001] 1000000 (J8 (s := a1T l k) (hd := hd) hp 44 (by omega)) (by simp [hb, hh]) rfl (by simp) ?_; rintro r hs' ⟨hd0, rfl⟩; simp -implicitDefEqProofs [h15, h16, h17, h5, C6, D2]; refine A3 c1 ?_; simp -implicitDefEqProofs [h15, h16, h17, h5]; refine M9 [1000000, 1000001] 1000000 (a0H (b := b) (s := a1T l k ++ [44]) (hd := hd0) (.inr rfl) (D9 n) (by simp [T4]; omega)) (by simp) rfl (by simp) ?_; rintro r hs' ⟨hd1, rfl⟩; simp -implicitDefEqProofs [h15, h16, h17, h5, C6, D2]; refine M9 [1000000, 1000001] 1000000 (J8 (b := b) (s := a1T l k ++ [44] ++ D9 n) (hd := hd1) (.inr rfl) 61 (by simp [T4]; omega)) (by simp) rfl (by simp) ?_; rintro r hs' ⟨hd2, rfl⟩; simp -implicitDefEqProofs [h15, h16, h17, h5, C6, D2]; refine A3 c2 ?_; generalize Y0 v = w at *; simp -implicitDefEqProofs [h15, h16, h17, h5]; refine G7 w.length (fun i τ => τ 15 = .d (.sl (l.map P2)) ∧ τ 16 = .d (.int .i64 l.length) ∧ τ 17 = .d (.int .i64 k) ∧ τ 5 = .d (.raw (va b)) ∧ τ 8 = .d (.str w) ∧ τ 34 = .d (.int .i64 w.length) ∧ τ 35 = .d (.int .i64 i) ∧ a9d τ b (a1B l k n ++ S2 (w.take i))) ?_ ?_
     · exact ⟨by simp [h15], by simp [h16], by simp [h17], by simp [h5], by simp, by simp, by simp, .raw (va b), hd2, .inr rfl, by simp, by simp [hP, S2, D7]⟩
     clear h15 h16 h17 h5 hb hh hp hd p hd0 hd1 hd2 τ; rintro i τ hi ⟨h15, h16, h17, h5, h8, h34, h35, p, hd, hp, hb, hh⟩; by_cases hil : i < length w
     · have hil' : (i : Int) < w.length := (by omega); have hs2 := b4m hil; have hel := b0j (w.take i); rw [length_take] at hel; by_cases h6 : X1 w[i] = true
       · rw [if_pos h6] at hs2; simp -implicitDefEqProofs [h15, h16, h17, h5, h8, h34, h35, hil, hil']; refine A3 (a0p w[i]) ?_; simp -implicitDefEqProofs [h15, h16, h17, h5, h8, h34, h35, hil, hil', h6]; refine M9 [1000000, 1000001] 1000000 (J8 (s := a1B l k n ++ S2 (w.take i)) (hd := hd) hp 92 (by simp; omega)) (by simp [hb, hh]) rfl (by simp) ?_; rintro r hs' ⟨hd1, rfl⟩; simp -implicitDefEqProofs [h15, h16, h17, h5, h8, h34, h35, hil, hil', C6, D2]; refine M9 [1000000, 1000001] 1000000 (J8 (b := b) (s := a1B l k n ++ S2 (w.take i) ++ [92]) (hd := hd1) (.inr rfl) w[i] (by simp; omega)) (by simp) rfl (by simp) ?_; rintro r hs' ⟨hd2, rfl⟩; simp -implicitDefEqProofs [h15, h16, h17, h5, h8, h34, h35, hil, hil', C6, D2]; (repeat refine ai (by omega) ?_); exact D5 hil ⟨by simp [h15], by simp [h16], by simp [h17], by simp [h5], by simp [h8], by simp [h34], by simp, .raw (va b), hd2, .inr rfl, by simp, by simp [hs2]⟩
       · rw [if_neg h6] at hs2; simp -implicitDefEqProofs [h15, h16, h17, h5, h8, h34, h35, hil, hil']; refine A3 (a0p w[i]) ?_; simp -implicitDefEqProofs [h15, h16, h17, h5, h8, h34, h35, hil, hil', h6]; refine M9 [1000000, 1000001] 1000000 (J8 (s := a1B l k n ++ S2 (w.take i)) (hd := hd) hp w[i] (by simp; omega)) (by simp [hb, hh]) rfl (by simp) ?_; rintro r hs' ⟨hd1, rfl⟩; simp -implicitDefEqProofs [h15, h16, h17, h5, h8, h34, h35, hil, hil', C6, D2]; (repeat refine ai (by omega) ?_); exact D5 hil ⟨by simp [h15], by simp [h16], by simp [h17], by simp [h5], by simp [h8], by simp [h34], by simp, .raw (va b), hd1, .inr rfl, by simp, by simp [hs2]⟩
     · have hil' : ¬ (i : Int) < w.length := (by omega); rw [ttl (by omega)] at hh; simp -implicitDefEqProofs [h15, h16, h17, h5, h8, h34, h35, hil, hil']; (repeat refine ai (by omega) ?_); exact D5 hlt ⟨by simp [h15], by simp [h16], by simp, by simp [h5], p, hd, hp, by simp [hb], by simp [hs, hh]⟩
 · have hlt' : ¬ (k : Int) < l.length := (by omega); rw [c4G l hlt] at hh; simp -implicitDefEqProofs [h15, h16, h17, h5, hlt, hlt']; refine M9 [1000000, 1000001] 1000000 (a5q (s := D8 44 (l.map W5)) (hd := hd) hp) (by simp [hb, hh]) rfl (by simp) ?_; rintro r hs' ⟨rfl, rfl⟩; simp -implicitDefEqProofs [h15, h16, h17, h5, C6, D2]
theorem b1U (a : Str) : (D7 a).length = a.length := by simp [D7]
theorem c1K {s : Str} {p : G3} (h : W0 s = (p, 0)) : length p.1 ≤ 64 ∧ length p.2 ≤ 256 := by
 have := a6A h; exact ⟨a8a this.1, a6O this.2⟩
theorem b1d : ∀ {ps : List Str} {out : List G3}, (R0 out ps).2 ≠ 0 → (R0 out ps).1 = []
 | [], out, h => by
   simp only [R0] at h ⊢; split
   · rfl
   · rename_i h8; rw [if_neg h8] at h; exact absurd rfl h
 | p :: ps, out, h => by
   simp only [R0] at h ⊢; by_cases h0 : (W0 p).2 = 0
   · rw [if_pos h0] at h ⊢; exact b1d h
   · rw [if_neg h0]
theorem b1B {s : Str} (h : (E8 s).2 ≠ 0) : (E8 s).1 = [] := by
 unfold E8 at h ⊢; split
 · rfl
 · rename_i hs; rw [if_neg hs] at h; exact b1d h
theorem b9R (s : Str) : (E8 s).1.length ≤ 8 ∧ ∀ p ∈ (E8 s).1, length p.1 ≤ 64 ∧ length p.2 ≤ 256 := by
 by_cases h : (E8 s).2 = 0
 · unfold E8 at h ⊢; split
   · simp
   · rename_i hs
     rw [if_neg hs] at h; have hc : R0 [] (Q2 s) = ((R0 [] (Q2 s)).1, 0) := by rw [← h]
     obtain ⟨qs, hr, hl, h8, hq⟩ := a6C hc; refine ⟨h8, fun p hp => ?_⟩; rw [hr, nil_append] at hp; obtain ⟨i, hi, rfl⟩ := getElem_of_mem hp; exact c1K (hq i (by omega) hi)
 · rw [b1B h]; simp
theorem a1h (s : Str) : a8O (E8 s).1 := by
 obtain ⟨h1, h2⟩ := b9R s; exact ⟨by omega, fun p hp => by have := h2 p hp; omega⟩
theorem a7h (s : Str) : M4 s = if L5 s = true then some (E8 s).1 else none := by
 unfold L5; by_cases h : (E8 s).2 = 0 ∧ I2 (E8 s).1 = (s, 0)
 · have e : M4 s = some (E8 s).1 := by rw [M4, if_pos h]
   rw [e]; rfl
 · have e : M4 s = none := by rw [M4, if_neg h]
   rw [e]; rfl
theorem c0j (s : Str) : L5 s = (decide ((E8 s).2 = 0) && (decide ((I2 (E8 s).1).2 = 0) && decide ((I2 (E8 s).1).1 = s))) := by
 unfold L5 M4; by_cases h1 : (E8 s).2 = 0
 · by_cases h2 : (I2 (E8 s).1).2 = 0
   · by_cases h3 : (I2 (E8 s).1).1 = s
     · have e : I2 (E8 s).1 = (s, 0) := by rw [← h2]; exact Prod.ext h3 rfl
       rw [if_pos ⟨h1, e⟩, decide_eq_true h1, decide_eq_true h2, decide_eq_true h3]; rfl
     · have e : ¬ I2 (E8 s).1 = (s, 0) := fun q => h3 (by rw [q])
       rw [if_neg fun q => e q.2, decide_eq_true h1, decide_eq_true h2, decide_eq_false h3]; rfl
   · have e : ¬ I2 (E8 s).1 = (s, 0) := fun q => h2 (by rw [q])
     rw [if_neg fun q => e q.2, decide_eq_true h1, decide_eq_false h2]; rfl
 · rw [if_neg fun q => h1 q.1, decide_eq_false h1]; rfl
theorem a2y (s : Str) (hs : length s < 900000) : Ctr prog 104 [.d (.str s)] (.tup [.d (K7 (E8 s).1), .d (.bool (L5 s))]) := by
 refine O0 (rv := .tmp 2) (rs := [.tmp 3]) (r := .d (K7 (E8 s).1)) (ys := [.d (.bool (L5 s))]) (fun i => false) (by kernel_rfl) func104 (by kernel_rfl) rfl rfl (by simp) (nbl rfl) (by kernel_rfl) rfl rfl ?_; have c1 := b3M s hs; have c2 := a7v (E8 s).1 (a1h s); have he := b1B (s := s); rw [c0j]; obtain ⟨⟨l, e⟩, hP⟩ : ∃ r, E8 s = r := ⟨_, rfl⟩; rw [hP] at c1 c2 he ⊢; simp only [K7] at *; generalize I2 l = G at *; obtain ⟨t, g⟩ := G; simp -implicitDefEqProofs; refine A3 c1 ?_; by_cases h0 : e = 0
 · simp -implicitDefEqProofs [h0]; refine A3 c2 ?_; by_cases h1 : g = 0
   · simp -implicitDefEqProofs [h1]
   · simp -implicitDefEqProofs [h1]
 · have := he h0; subst this; simp -implicitDefEqProofs [h0]
theorem c2g (s : Str) (hs : length s < 900000) : Ctr prog 54 [.d (.str s)] (.d (.bool (L5 s))) := by
 refine fv (fun _ => false) func54 (by kernel_rfl) rfl rfl rfl rfl rfl ?_; have c1 := a2y s hs; simp only [K7] at c1; simp -implicitDefEqProofs; refine A3 c1 ?_; simp -implicitDefEqProofs
theorem c1f (s : Str) : a3X s = if L5 s = true then (E8 s).1.length else 0 := by
 rw [a3X, a7h]; split <;> rfl
theorem c0V (s : Str) (hs : length s < 900000) : Ctr prog 68 [.d (.str s)] (.d (.int .i64 (a3X s))) := by
 refine fv (fun _ => false) func68 (by kernel_rfl) rfl rfl rfl rfl rfl ?_; have c1 := a2y s hs; rw [c1f]; simp only [K7] at c1; by_cases hv : L5 s = true
 · simp -implicitDefEqProofs; refine A3 c1 ?_; simp -implicitDefEqProofs [hv]
 · simp -implicitDefEqProofs; refine A3 c1 ?_; simp -implicitDefEqProofs [hv]
theorem a6m (c : Chg) (hc : O8 c) : Ctr prog 24 [.d (A6 c)] (.d (.int .i64 (F4 c))) := by
 refine fv (fun _ => false) func24 (by kernel_rfl) rfl rfl rfl rfl rfl ?_; obtain ⟨f1, f2, f3, f4⟩ := hc; obtain ⟨n, op, id, nm, at_, va⟩ := c; simp only at f1 f2 f3 f4; have c1 := a8Z n; have c2 := b7f id (by omega); have c3 := c2g nm (by omega); have c4 := b0J at_ (by omega); have c5 := a2z at_ (by omega); have c6 := a8f va (by omega); rw [a7B] at c6
 
 obtain ⟨R, hR⟩ : ∃ R, F4 (n, op, id, nm, at_, va) = R := ⟨_, rfl⟩; rw [hR]; unfold F4 at hR; simp only at hR; simp only [B0, A6] at c1 c2; generalize P0 id = P at *; obtain ⟨⟨p1, p2, p3⟩, pe⟩ := P; simp only at c2 hR; by_cases hv : U3 n = true
 case neg =>
   have hv' : U3 n = false := (by simpa using hv); rw [hv'] at c1; have hR2 : 2 = R := by rw [← hR]; simp [hv']
   rw [← hR2]; simp -implicitDefEqProofs [A6, B0]; refine A3 c1 ?_; simp -implicitDefEqProofs [A6, B0]
 rw [hv] at c1; by_cases hlo : op < 1
 case pos =>
   have hR2 : 2 = R := by rw [← hR]; simp [hlo]
   rw [← hR2]; simp -implicitDefEqProofs [A6, B0, hlo]; refine A3 c1 ?_; simp -implicitDefEqProofs [A6, B0, hlo]
 by_cases hhi : 5 < op
 case pos =>
   have hR2 : 2 = R := by rw [← hR]; simp [hhi]
   rw [← hR2]; simp -implicitDefEqProofs [A6, B0, hlo, hhi]; refine A3 c1 ?_; simp -implicitDefEqProofs [A6, B0, hlo, hhi]
 by_cases hpe : pe = 0
 case neg =>
   have hR2 : 4 = R := by rw [← hR]; simp [hv, hlo, hhi, hpe]
   rw [← hR2]; simp -implicitDefEqProofs [A6, B0, hlo, hhi, hpe]; refine A3 c1 ?_; simp -implicitDefEqProofs [A6, B0, hlo, hhi, hpe]; refine A3 c2 ?_; simp -implicitDefEqProofs [A6, B0, hlo, hhi, hpe]
 subst hpe; have : op = 1 ∨ op = 2 ∨ op = 3 ∨ op = 4 ∨ op = 5 := (by omega); clear hlo hhi; rcases this with rfl | rfl | rfl | rfl | rfl
 case inl =>
   by_cases e2 : at_ = []
   case neg =>
     have hR2 : 4 = R := by rw [← hR]; simp [hv, F7, F3, J4, J5, e2]
     rw [← hR2]; simp -implicitDefEqProofs [A6, B0, e2]; refine A3 c1 ?_; simp -implicitDefEqProofs [A6, B0, e2]; refine A3 c2 ?_; simp -implicitDefEqProofs [A6, B0, e2]
   by_cases e3 : va = []
   case neg =>
     have hR2 : 4 = R := by rw [← hR]; simp [hv, F7, F3, J4, J5, e2, e3]
     rw [← hR2]; simp -implicitDefEqProofs [A6, B0, e2, e3]; refine A3 c1 ?_; simp -implicitDefEqProofs [A6, B0, e2, e3]; refine A3 c2 ?_; simp -implicitDefEqProofs [A6, B0, e2, e3]
   by_cases e1 : nm = []
   case pos =>
     have hR2 : 5 = R := by rw [← hR]; simp [hv, F7, F3, J4, J5, e1, e2, e3]
     rw [← hR2]; simp -implicitDefEqProofs [A6, B0, e1, e2, e3]; refine A3 c1 ?_; simp -implicitDefEqProofs [A6, B0, e1, e2, e3]; refine A3 c2 ?_; simp -implicitDefEqProofs [A6, B0, e1, e2, e3]
   by_cases e4 : L5 nm = true
   case neg =>
     have e4' : L5 nm = false := (by simpa using e4); rw [e4'] at c3; have hR2 : 5 = R := by rw [← hR]; simp [hv, F7, F3, J4, J5, e1, e2, e3, e4']
     rw [← hR2]; simp -implicitDefEqProofs [A6, B0, e1, e2, e3]; refine A3 c1 ?_; simp -implicitDefEqProofs [A6, B0, e1, e2, e3]; refine A3 c2 ?_; simp -implicitDefEqProofs [A6, B0, e1, e2, e3]; refine E4 c3 ?_; simp -implicitDefEqProofs [A6, B0, e1, e2, e3]
   rw [e4] at c3; have hR2 : 0 = R := by rw [← hR]; simp [hv, F7, F3, J4, J5, e1, e2, e3, e4]
   rw [← hR2]; simp -implicitDefEqProofs [A6, B0, e1, e2, e3]; refine A3 c1 ?_; simp -implicitDefEqProofs [A6, B0, e1, e2, e3]; refine A3 c2 ?_; simp -implicitDefEqProofs [A6, B0, e1, e2, e3]; refine E4 c3 ?_; simp -implicitDefEqProofs [A6, B0, e1, e2, e3]
 case inr.inl =>
   by_cases e1 : nm = []
   case neg =>
     have hR2 : 4 = R := by rw [← hR]; simp [hv, F7, F3, J4, J5, e1]
     rw [← hR2]; simp -implicitDefEqProofs [A6, B0, e1]; refine A3 c1 ?_; simp -implicitDefEqProofs [A6, B0, e1]; refine A3 c2 ?_; simp -implicitDefEqProofs [A6, B0, e1]
   by_cases e2 : at_ = []
   case neg =>
     have hR2 : 4 = R := by rw [← hR]; simp [hv, F7, F3, J4, J5, e1, e2]
     rw [← hR2]; simp -implicitDefEqProofs [A6, B0, e1, e2]; refine A3 c1 ?_; simp -implicitDefEqProofs [A6, B0, e1, e2]; refine A3 c2 ?_; simp -implicitDefEqProofs [A6, B0, e1, e2]
   by_cases e3 : va = []
   case neg =>
     have hR2 : 4 = R := by rw [← hR]; simp [hv, F7, F3, J4, J5, e1, e2, e3]
     rw [← hR2]; simp -implicitDefEqProofs [A6, B0, e1, e2, e3]; refine A3 c1 ?_; simp -implicitDefEqProofs [A6, B0, e1, e2, e3]; refine A3 c2 ?_; simp -implicitDefEqProofs [A6, B0, e1, e2, e3]
   have hR2 : 0 = R := by rw [← hR]; simp [hv, F7, F3, J4, J5, e1, e2, e3]
   rw [← hR2]; simp -implicitDefEqProofs [A6, B0, e1, e2, e3]; refine A3 c1 ?_; simp -implicitDefEqProofs [A6, B0, e1, e2, e3]; refine A3 c2 ?_; simp -implicitDefEqProofs [A6, B0, e1, e2, e3]
 case inr.inr.inl =>
   by_cases e2 : at_ = []
   case neg =>
     have hR2 : 4 = R := by rw [← hR]; simp [hv, F7, F3, J4, J5, e2]
     rw [← hR2]; simp -implicitDefEqProofs [A6, B0, e2]; refine A3 c1 ?_; simp -implicitDefEqProofs [A6, B0, e2]; refine A3 c2 ?_; simp -implicitDefEqProofs [A6, B0, e2]
   by_cases e3 : va = []
   case neg =>
     have hR2 : 4 = R := by rw [← hR]; simp [hv, F7, F3, J4, J5, e2, e3]
     rw [← hR2]; simp -implicitDefEqProofs [A6, B0, e2, e3]; refine A3 c1 ?_; simp -implicitDefEqProofs [A6, B0, e2, e3]; refine A3 c2 ?_; simp -implicitDefEqProofs [A6, B0, e2, e3]
   by_cases e1 : nm = []
   case pos =>
     have hR2 : 5 = R := by rw [← hR]; simp [hv, F7, F3, J4, J5, e1, e2, e3]
     rw [← hR2]; simp -implicitDefEqProofs [A6, B0, e1, e2, e3]; refine A3 c1 ?_; simp -implicitDefEqProofs [A6, B0, e1, e2, e3]; refine A3 c2 ?_; simp -implicitDefEqProofs [A6, B0, e1, e2, e3]
   by_cases e4 : L5 nm = true
   case neg =>
     have e4' : L5 nm = false := (by simpa using e4); rw [e4'] at c3; have hR2 : 5 = R := by rw [← hR]; simp [hv, F7, F3, J4, J5, e1, e2, e3, e4']
     rw [← hR2]; simp -implicitDefEqProofs [A6, B0, e1, e2, e3]; refine A3 c1 ?_; simp -implicitDefEqProofs [A6, B0, e1, e2, e3]; refine A3 c2 ?_; simp -implicitDefEqProofs [A6, B0, e1, e2, e3]; refine E4 c3 ?_; simp -implicitDefEqProofs [A6, B0, e1, e2, e3]
   rw [e4] at c3; have hR2 : 0 = R := by rw [← hR]; simp [hv, F7, F3, J4, J5, e1, e2, e3, e4]
   rw [← hR2]; simp -implicitDefEqProofs [A6, B0, e1, e2, e3]; refine A3 c1 ?_; simp -implicitDefEqProofs [A6, B0, e1, e2, e3]; refine A3 c2 ?_; simp -implicitDefEqProofs [A6, B0, e1, e2, e3]; refine E4 c3 ?_; simp -implicitDefEqProofs [A6, B0, e1, e2, e3]
 case inr.inr.inr.inl =>
   by_cases e1 : nm = []
   case neg =>
     have hR2 : 4 = R := by rw [← hR]; simp [hv, F7, F3, J4, J5, e1]
     rw [← hR2]; simp -implicitDefEqProofs [A6, B0, e1]; refine A3 c1 ?_; simp -implicitDefEqProofs [A6, B0, e1]; refine A3 c2 ?_; simp -implicitDefEqProofs [A6, B0, e1]
   by_cases e4 : U1 at_ = true
   case neg =>
     have e4' : U1 at_ = false := (by simpa using e4); rw [e4'] at c4; have hR2 : 5 = R := by rw [← hR]; simp [hv, F7, F3, J4, J5, e1, e4']
     rw [← hR2]; simp -implicitDefEqProofs [A6, B0, e1]; refine A3 c1 ?_; simp -implicitDefEqProofs [A6, B0, e1]; refine A3 c2 ?_; simp -implicitDefEqProofs [A6, B0, e1]; refine E4 c4 ?_; simp -implicitDefEqProofs [A6, B0, e1]
   rw [e4] at c4; generalize hla : D9 at_ = la at *; by_cases e5 : la = at_
   case neg =>
     have hR2 : 5 = R := by rw [← hR]; simp [hv, F7, F3, J4, J5, e1, e4, hla, e5]
     rw [← hR2]; simp -implicitDefEqProofs [A6, B0, e1, e5]; refine A3 c1 ?_; simp -implicitDefEqProofs [A6, B0, e1, e5]; refine A3 c2 ?_; simp -implicitDefEqProofs [A6, B0, e1, e5]; refine E4 c4 ?_; simp -implicitDefEqProofs [A6, B0, e1, e5]; refine E4 c5 ?_; simp -implicitDefEqProofs [A6, B0, e1, e5]
   by_cases e6 : S3 va = true
   case neg =>
     have e6' : S3 va = false := (by simpa using e6); rw [e6'] at c6; have hR2 : 8 = R := by rw [← hR]; simp [hv, F7, F3, J4, J5, e1, e4, hla, e5, e6']
     rw [← hR2]; simp -implicitDefEqProofs [A6, B0, e1, e5]; refine A3 c1 ?_; simp -implicitDefEqProofs [A6, B0, e1, e5]; refine A3 c2 ?_; simp -implicitDefEqProofs [A6, B0, e1, e5]; refine E4 c4 ?_; simp -implicitDefEqProofs [A6, B0, e1, e5]; refine E4 c5 ?_; simp -implicitDefEqProofs [A6, B0, e1, e5]; refine A3 c6 ?_; simp -implicitDefEqProofs [A6, B0, e1, e5]
   rw [e6] at c6; have hR2 : 0 = R := by rw [← hR]; simp [hv, F7, F3, J4, J5, e1, e4, hla, e5, e6]
   rw [← hR2]; simp -implicitDefEqProofs [A6, B0, e1, e5]; refine A3 c1 ?_; simp -implicitDefEqProofs [A6, B0, e1, e5]; refine A3 c2 ?_; simp -implicitDefEqProofs [A6, B0, e1, e5]; refine E4 c4 ?_; simp -implicitDefEqProofs [A6, B0, e1, e5]; refine E4 c5 ?_; simp -implicitDefEqProofs [A6, B0, e1, e5]; refine A3 c6 ?_; simp -implicitDefEqProofs [A6, B0, e1, e5]
 case inr.inr.inr.inr =>
   by_cases e1 : nm = []
   case neg =>
     have hR2 : 4 = R := by rw [← hR]; simp [hv, F7, F3, J4, J5, e1]
     rw [← hR2]; simp -implicitDefEqProofs [A6, B0, e1]; refine A3 c1 ?_; simp -implicitDefEqProofs [A6, B0, e1]; refine A3 c2 ?_; simp -implicitDefEqProofs [A6, B0, e1]
   by_cases e4 : U1 at_ = true
   case neg =>
     have e4' : U1 at_ = false := (by simpa using e4); rw [e4'] at c4; have hR2 : 5 = R := by rw [← hR]; simp [hv, F7, F3, J4, J5, e1, e4']
     rw [← hR2]; simp -implicitDefEqProofs [A6, B0, e1]; refine A3 c1 ?_; simp -implicitDefEqProofs [A6, B0, e1]; refine A3 c2 ?_; simp -implicitDefEqProofs [A6, B0, e1]; refine E4 c4 ?_; simp -implicitDefEqProofs [A6, B0, e1]
   rw [e4] at c4; generalize hla : D9 at_ = la at *; by_cases e5 : la = at_
   case neg =>
     have hR2 : 5 = R := by rw [← hR]; simp [hv, F7, F3, J4, J5, e1, e4, hla, e5]
     rw [← hR2]; simp -implicitDefEqProofs [A6, B0, e1, e5]; refine A3 c1 ?_; simp -implicitDefEqProofs [A6, B0, e1, e5]; refine A3 c2 ?_; simp -implicitDefEqProofs [A6, B0, e1, e5]; refine E4 c4 ?_; simp -implicitDefEqProofs [A6, B0, e1, e5]; refine E4 c5 ?_; simp -implicitDefEqProofs [A6, B0, e1, e5]
   by_cases e6 : S3 va = true
   case neg =>
     have e6' : S3 va = false := (by simpa using e6); rw [e6'] at c6; have hR2 : 8 = R := by rw [← hR]; simp [hv, F7, F3, J4, J5, e1, e4, hla, e5, e6']
     rw [← hR2]; simp -implicitDefEqProofs [A6, B0, e1, e5]; refine A3 c1 ?_; simp -implicitDefEqProofs [A6, B0, e1, e5]; refine A3 c2 ?_; simp -implicitDefEqProofs [A6, B0, e1, e5]; refine E4 c4 ?_; simp -implicitDefEqProofs [A6, B0, e1, e5]; refine E4 c5 ?_; simp -implicitDefEqProofs [A6, B0, e1, e5]; refine A3 c6 ?_; simp -implicitDefEqProofs [A6, B0, e1, e5]
   rw [e6] at c6; have hR2 : 0 = R := by rw [← hR]; simp [hv, F7, F3, J4, J5, e1, e4, hla, e5, e6]
   rw [← hR2]; simp -implicitDefEqProofs [A6, B0, e1, e5]; refine A3 c1 ?_; simp -implicitDefEqProofs [A6, B0, e1, e5]; refine A3 c2 ?_; simp -implicitDefEqProofs [A6, B0, e1, e5]; refine E4 c4 ?_; simp -implicitDefEqProofs [A6, B0, e1, e5]; refine E4 c5 ?_; simp -implicitDefEqProofs [A6, B0, e1, e5]; refine A3 c6 ?_; simp -implicitDefEqProofs [A6, B0, e1, e5]
structure b9N (w w' : World) (b g : Nat) (cs : Array Value) : Prop where
 heap : w'.heap = ((w.setCell ⟨b, 1, none⟩ (.slice (some ⟨g, 0, none⟩) 0 cs.size)).alloc (.cells cs 5)).heap
 os : w'.os = w.os
 tape : w'.tape = w.tape
 output : w'.output = w.output
 drawn : w.drawn ≤ w'.drawn
set_option maxRecDepth 1000000 in
set_option maxHeartbeats 2000000 in
theorem c2H (b n : Nat) (w : World) (hbk : w.heap[b]? = some (.cells #[va b, .slice none 0 0] 175 (0, 0))) (hn : n ≤ 281474976710656) :
   Calls prog 242 #[va b, .int .i64 n] w fun e w' => e = .returned (.tuple #[]) ∧ ∃ cs : Array Value, n ≤ cs.size ∧ (n ≤ maxLen → cs.size ≤ maxLen) ∧ b9N w w' b w.heap.size cs := by
 obtain ⟨cs, hrun, hle, hmax⟩ := Lib.run_makeNoZero (P := prog) w.drew #[3] 66 5 Tryz.underlying66 n hn; have hw : IntKind.i64.wrap (IntKind.i64.wrap 0 + (n : Int)) = n := by
   rw [IntKind.wrap_i64, IntKind.wrap_i64]; omega
 have hcall : (callFunc 254 #[.int .i64 (IntKind.i64.wrap (IntKind.i64.wrap 0 + (n : Int)))]).run prog w.drew = .ok (.value (.slice (some ⟨w.drew.heap.size, 0, none⟩) n cs.size)) (w.drew.drew.drew.alloc (.cells cs 5)) := by
   rw [hw, run_callFunc_extern func254 (by kernel_rfl) (by kernel_rfl) (by kernel_rfl) (e := Extern.BytealgMakeNoZero.makeNoZero #[3] #[66]) (by kernel_rfl), hrun]; rfl
 have hlt : b < w.heap.size := (Array.getElem?_eq_some_iff.1 hbk).1; have c1 : w.drew.cell? ⟨b, 1, none⟩ = some (.slice none 0 0) := by
   have : w.drew.heap[b]? = _ := hbk; rw [Lib.cell_of_heap this]; rfl
 have c2 : (w.alloc (.cells cs 5)).cell? ⟨b, 1, none⟩ = some (.slice none 0 0) := by
   have : (w.alloc (.cells cs 5)).heap[b]? = _ := (Lib.alloc_old w _ b hlt).trans hbk; rw [Lib.cell_of_heap this]; rfl
 have f2 : (w.alloc (.cells cs 5)).frozen? ⟨b, 1, none⟩ = false := Lib.frozen_of_heap ((Lib.alloc_old w _ b hlt).trans hbk) 1; have hcopy : ∀ W : World, (Builtin.copy_ #[66, 66] 3 #[.slice (some ⟨w.heap.size, 0, none⟩) 0 cs.size, .slice none 0 0]).run prog W = .ok (goInt 0) W :=
   fun W => run_copy_none W 66 100 3 5 _ _ 0 cs.size 0 0 Tryz.underlying66 a8S rfl
 clear hw; have mixed : prog.follows .mixedOrders = true := by kernel_rfl
 go_enter func242, Tryz.ntmps242
 go_wp2
 go_region_o
 all_goals (go_wp2; go_end0; exact ⟨rfl, cs, hle, hmax, rfl, rfl, rfl, rfl, Nat.le_add_right w.drawn 3⟩)
set_option maxRecDepth 1000000 in
set_option maxHeartbeats 2000000 in
theorem c3c (b n : Nat) (w : World) (hbk : w.heap[b]? = some (.cells #[.pointer none, .slice none 0 0] 175 (0, 0))) (hn0 : 0 < n) (hn : n ≤ 281474976710656) :
   Calls prog 210 #[va b, .int .i64 n] w fun e w' => e = .returned (.tuple #[]) ∧ ∃ cs : Array Value, n ≤ cs.size ∧ (n ≤ maxLen → cs.size ≤ maxLen) ∧ b9N (w.setCell ⟨b, 0, none⟩ (va b)) w' b w.heap.size cs := by
 have hbk1 : (w.setCell ⟨b, 0, none⟩ (va b)).heap[b]? = some (.cells #[va b, .slice none 0 0] 175 (0, 0)) := by
   simp [World.setCell, Array.getElem?_modify, hbk]
 have c1 : (w.setCell ⟨b, 0, none⟩ (va b)).cell? ⟨b, 1, none⟩ = some (.slice none 0 0) := by rw [Lib.cell_of_heap hbk1]; rfl
 have hsz : (w.setCell ⟨b, 0, none⟩ (va b)).heap.size = w.heap.size := (by simp [World.setCell]); have mixed : prog.follows .mixedOrders = true := by kernel_rfl
 have hw : (IntKind.i64.wrap (IntKind.i64.wrap 0) : Int) = 0 := by rw [IntKind.wrap_i64]; decide
 have hneg : ¬ ((n : Int) < 0) := (by omega); have hpos : (0 : Int) < n := (by omega); have e132 : ∀ args w, (callFunc 206 args).run prog w = .ok (.enter 206 args) w := enters_of func206 (by kernel_rfl) rfl; have e182 : ∀ args w, (callFunc 242 args).run prog w = .ok (.enter 242 args) w := enters_of func242 (by kernel_rfl) rfl
 go_enter func210, Tryz.ntmps210
 go_wp2_with (go_at_call 206; refine (b6h b w (by rw [Lib.cell_of_heap hbk]; rfl) (by simp [World.shape?, hbk]) (Lib.frozen_of_heap hbk 0)).mono ?_; rintro e w' ⟨rfl, rfl⟩)
 have c1' : (w.setCell ⟨b, 0, none⟩ (va b)).drew.cell? ⟨b, 1, none⟩ = some (.slice none 0 0) := c1; have fin : ∀ (w' : World) (cs : Array Value), b9N (w.setCell ⟨b, 0, none⟩ (va b)).drew w' b (w.setCell ⟨b, 0, none⟩ (va b)).drew.heap.size cs → b9N (w.setCell ⟨b, 0, none⟩ (va b)) w' b w.heap.size cs := fun w' cs h => by
   have e : (w.setCell ⟨b, 0, none⟩ (va b)).drew.heap.size = w.heap.size := hsz; rw [e] at h; exact ⟨h.heap, h.os, h.tape, h.output, Nat.le_trans (Nat.le_succ _) h.drawn⟩
 go_region_o
 all_goals go_wp2_with (go_at_call 242; refine (c2H b n (w.setCell ⟨b, 0, none⟩ (va b)).drew hbk1 hn).mono ?_; rintro e w' ⟨rfl, cs, h1, h2, h3⟩)
 all_goals first
   | (go_end0; exact ⟨rfl, cs, h1, h2, fin _ _ h3⟩)
   | trace_state
theorem c6r {b n : Nat} (h0 : 0 < n) (hn : n ≤ 140737488355328) :
   H5 prog 210 [.d (.raw (va b)), .d (.int .i64 n)] (bld b .nilp (.slice none 0 0) []) (fun r hs' => r = .tup [] ∧ ∃ hd', hs' = bld b (.raw (va b)) hd' []) := by
 refine ⟨enters_of func210 (by kernel_rfl) rfl, fun w L vals hlok hgl hv hh _ => ?_⟩; simp only [RCs] at hv; obtain ⟨v, us, rfl, hv1, v2, us2, rfl, hv2, rfl⟩ := hv; obtain rfl : v = va b := RepV.raw_inv hv1; obtain rfl : v2 = .int .i64 n := RepV.int_inv hv2; have hb : Z9 w L (some b) 175 (.agg [.nilp, .raw (.slice none 0 0)]) (va b) := (hh (.hb (va b) 175 (.agg [.nilp, .raw (.slice none 0 0)])) (by simp)).2; obtain ⟨pv, e1, e2, e3, e4, e5⟩ := a7D (.inl rfl) hb; obtain rfl : pv = .pointer none := by
   rcases e5 with ⟨_, h⟩ | ⟨h, _⟩
   · exact h
   · cases h
 have hlt : b < w.heap.size := (Array.getElem?_eq_some_iff.1 e1).1; refine (c3c b n w e1 h0 (by omega)).mono ?_; rintro e w' ⟨rfl, cs, h1, h2, h3⟩; have hcm := h2 (by unfold maxLen; omega); have hsz0 : (w.setCell ⟨b, 0, none⟩ (va b)).heap.size = w.heap.size := (by simp [World.setCell]); have hsz1 : ((w.setCell ⟨b, 0, none⟩ (va b)).setCell ⟨b, 1, none⟩ (.slice (some ⟨w.heap.size, 0, none⟩) 0 cs.size)).heap.size = w.heap.size := (by simp [World.setCell]); have hsz : w'.heap.size = w.heap.size + 1 := by rw [h3.heap, a4n, hsz1]
 have hold : ∀ k, k < w.heap.size → k ≠ b → w'.heap[k]? = w.heap[k]? := fun k hk hne => by
   rw [h3.heap, Lib.alloc_old _ _ k (by rw [hsz1]; exact hk)]; rw [Below.heap_setCell _ _ _ k hne, Below.heap_setCell _ _ _ k hne]
 have hbk : w'.heap[b]? = some (.cells #[va b, .slice (some ⟨w.heap.size, 0, none⟩) 0 cs.size] 175 (0, 0)) := by
   rw [h3.heap, Lib.alloc_old _ _ b (by rw [hsz1]; exact hlt)]; simp [World.setCell, Array.getElem?_modify, e1]
 have hgk : w'.heap[w.heap.size]? = some (.cells cs 5 (0, 0)) := by
   rw [h3.heap]
   show (((w.setCell ⟨b, 0, none⟩ (va b)).setCell ⟨b, 1, none⟩ (.slice (some ⟨w.heap.size, 0, none⟩) 0 cs.size)).heap.push (.cells cs 5))[w.heap.size]? = _
   rw [Array.getElem?_push, if_pos hsz1.symm]
 have hfree : ∀ q, ¬ L w.heap.size q := fun q hq => by have := hlok _ q hq; omega
 have hblk1 : (bld b .nilp (.slice none 0 0) []).map C0 = [some b, none] := rfl; refine ⟨_, L, none, .tup [], bld b (.raw (va b)) (.slice (some ⟨w.heap.size, 0, none⟩) 0 cs.size) [], rfl, ⟨h3.os, h3.tape, h3.output, by omega, fun k hk hn => hold k hk (fun e => hn (by rw [hblk1]; simp [e])), h3.drawn⟩,
   fun c q hq => by have := hlok c q hq; omega, fun _ _ _ _ => Iff.rfl, fun g hg => ?_, ?_, ⟨[], rfl, rfl⟩, fun x hx => ?_, rfl, _, rfl⟩
 · simp [C0, Value.ownBlock] at hg; rcases hg with rfl | rfl
   · exact ⟨by omega, .inr (by rw [hblk1]; simp)⟩
   · exact ⟨by omega, .inl (Nat.le_refl _)⟩
 · simp only [K3, C0, map_cons, map_nil, Value.ownBlock]; refine ⟨by simp, ?_, ?_, trivial⟩
   · intro g hg; simp at hg ⊢; omega
   · intro g hg; simp
 · simp only [mem_cons, not_mem_nil, or_false] at hx; rcases hx with rfl | rfl
   · exact b0P hbk e2 rfl rfl
   · refine ⟨rfl, [], 1, by rw [W7 (by decide)]; exact a8S, by simp [A5, D7], by simp, ⟨rfl, .inr ⟨w.heap.size, cs.size, cs, rfl, by rw [W7 (by decide), a5y (by decide)]; exact hgk, Nat.zero_le _, hcm, by omega, by simp [D7]⟩⟩, fun g hg => ?_⟩; have : g = w.heap.size := (by simpa [Value.ownBlock] using hg.symm); subst this; exact ⟨rfl, fun o => ⟨fun h => absurd h (hfree o), fun h => by simp at h⟩⟩
def nT (l : List Str) (k : Nat) : Nat := (l.length - 1) + ((l.take k).map length).sum
theorem c5w (l : List Str) : nT l 0 = l.length - 1 := by simp [nT]
theorem b7C {l : List Str} {k : Nat} (hk : k < l.length) : nT l (k + 1) = nT l k + length l[k] := by
 unfold nT; rw [F6 hk, map_append, sum_append]; simp; omega
theorem a4X (c : UInt8) : ∀ l : List Str, (D8 c l).length = (l.length - 1) + (l.map length).sum
 | [] => rfl
 | [p] => by simp [D8]
 | p :: q :: ps => by
   have := a4X c (q :: ps); simp only [D8, length_append, length_cons, map_cons, sum_cons] at this ⊢; omega
theorem c1Y (c : UInt8) (l : List Str) {k : Nat} (hk : l.length ≤ k) : nT l k = (D8 c l).length := by
 unfold nT; rw [ttl hk, a4X]
theorem a9j (l : List Str) : ∀ {k m : Nat}, k ≤ m → nT l k ≤ nT l m := by
 intro k m h
 induction h with
 | refl => exact Nat.le_refl _
 | step h ih =>
   rename_i m
   by_cases hm : m < l.length
   · rw [b7C hm]; omega
   · refine Nat.le_trans ih ?_; unfold nT; rw [ttl (by omega), ttl (by omega)]; exact Nat.le_refl _
theorem b6Y {c : UInt8} {l : List Str} {k : Nat} (h : k < l.length) (h0 : 0 < k) : D8 c (l.take (k + 1)) = D8 c (l.take k) ++ c :: l[k] := by
 rw [F6 h]; have : ∀ (m : List Str) (p : Str), m ≠ [] → D8 c (m ++ [p]) = D8 c m ++ c :: p := by
   intro m p hm
   induction m with
   | nil => exact absurd rfl hm
   | cons x m ih =>
     cases m with
     | nil => simp [D8]
     | cons y m => simp only [cons_append, D8] at ih ⊢; rw [ih (by simp)]; simp
 exact this _ _ (fun e => by have := congrArg length e; simp only [length_take, length_nil] at this; omega)
theorem b6f (c : UInt8) (l : List Str) (m : Nat) : (D8 c (l.take m)).length ≤ (D8 c l).length := by
 have h1 := a9j l (Nat.le_add_right m l.length); rw [c1Y c l (show l.length ≤ m + l.length by omega)] at h1; refine Nat.le_trans ?_ h1; rw [a4X]; unfold nT; have : (l.take m).length ≤ l.length := by simp; omega
 omega
theorem c3H (l : List Str) (c : UInt8) (hl : l.length < 1000000) (hj : (D8 c l).length ≤ 140737488355328) : Ctr prog 180 [.d (C7 l), .d (.str [c])] (.d (.str (D8 c l))) := by
 refine fv (fun i => i == 1000008 || i == 5000057 || i == 5000061 || i == 5000070 || i == 5000072 || i == 5000074) func180 (by kernel_rfl) rfl rfl rfl rfl rfl ?_; by_cases h0 : l = []
 · subst h0; simp -implicitDefEqProofs [C7, D8]
 by_cases h1 : l.length = 1
 · obtain ⟨p, rfl⟩ : ∃ p, l = [p] := length_eq_one_iff.1 h1; simp -implicitDefEqProofs [C7, D8]
 have hl0 : 0 < l.length := length_pos_iff.2 h0; have h2 : 2 ≤ l.length := (by omega); have h0' : ¬ (l.length : Int) = 0 := (by omega); have h1' : ¬ (l.length : Int) = 1 := (by omega); have hq : ¬ (9223372036854775807 / ((l.length : Int) - 1) ≤ 1) := by
   have : 2 ≤ 9223372036854775807 / ((l.length : Int) - 1) := (Int.le_ediv_iff_mul_le (by omega)).2 (by omega); omega
 have hqr : 9223372036854775807 / ((l.length : Int) - 1) ≤ 9223372036854775807 := Int.ediv_le_self _ (by decide); have hq0 : 0 ≤ 9223372036854775807 / ((l.length : Int) - 1) := Int.ediv_nonneg (by decide) (by omega); have hall := c1Y c l (Nat.le_refl _); have hz := c5w l; simp -implicitDefEqProofs [C7, h0', h1', h0, h1, hq]; (repeat refine ai (by omega) ?_); refine G7 l.length (fun k τ => τ 0 = .d (.sl (l.map .str)) ∧ τ 1 = .d (.str [c]) ∧ τ 39 = .d (.sl (l.map .str)) ∧ τ 40 = .d (.int .i64 l.length) ∧ τ 41 = .d (.int .i64 k) ∧ τ 5 = .d (.int .i64 ((nT l k : Nat) : Int)) ∧ τ 1000000 = .undef ∧ τ 1000001 = .undef) ⟨by simp, by simp, by simp, by simp, by simp, by simp [hz]; omega, by simp, by simp⟩ ?_; rintro k τ hk ⟨q0, q1, q39, q40, q41, q5, qa, qb⟩; have hmk := a9j l hk; by_cases hlt : k < l.length
 · have hlt' : (k : Int) < l.length := (by omega); have hs := b7C hlt; have hms := a9j l (show k + 1 ≤ l.length by omega); generalize hx : l[k] = x at *; have hg : ¬ (9223372036854775807 - ((nT l k : Nat) : Int) < length x) := (by omega); simp -implicitDefEqProofs [q0, q1, q39, q40, q41, q5, hlt, hlt', hx, hg]; (repeat refine ai (by omega) ?_); refine D5 hlt ⟨by simp [q0], by simp [q1], by simp [q39], by simp [q40], by simp, by simp [hs], by simp [qa], by simp [qb]⟩
 have hlt' : ¬ (k : Int) < l.length := (by omega); obtain rfl : k = l.length := by omega
 have hn0 : 0 < nT l l.length := by have := a9j l (Nat.zero_le l.length); omega
 rw [hall] at hn0 q5; simp -implicitDefEqProofs [q0, q1, q39, q40, q41, q5, hlt']; refine b4M 1000000 1000001 5 (by simp [qb]) (by kernel_rfl) (by simp [qa]) (by simp) (fun b => ?_); simp -implicitDefEqProofs [q0, q1, q5]; refine M9 [1000000, 1000001] 1000000 (c6r (b := b) hn0 hj) (by simp [b4C, D7]) rfl (by simp) ?_; rintro r hs' ⟨rfl, hd, rfl⟩; obtain ⟨x0, l1, rfl⟩ : ∃ x l1, l = x :: l1 := by
   cases l with
   | nil => exact absurd rfl h0
   | cons x l1 => exact ⟨x, l1, rfl⟩
 have hm0 := b6f c (x0 :: l1) 1; simp only [take_succ_cons, take_zero, D8] at hm0; simp -implicitDefEqProofs [q0, q1, C6, D2]; (repeat refine ai (by omega) ?_); refine M9 [1000000, 1000001] 1000000 (a0H (s := []) (hd := hd) (.inr rfl) x0 (by simp only [length_nil]; omega)) (by simp) rfl (by simp) ?_; rintro r hs' ⟨hd1, rfl⟩; simp -implicitDefEqProofs [q0, q1, C6, D2]; clear hall hz hn0 q39 q40 q41 q5 hk hmk hlt hlt' hq hqr hq0 h0' h1' hl0 h0 h1; simp only [length_cons] at h2 hl; refine G7 l1.length (fun k τ => τ 1 = .d (.str [c]) ∧ τ 63 = .d (.sl (l1.map .str)) ∧ τ 64 = .d (.int .i64 l1.length) ∧ τ 65 = .d (.int .i64 k) ∧ τ 8 = .d (.raw (va b)) ∧ a9d τ b (D8 c ((x0 :: l1).take (k + 1)))) ?_ ?_
 · refine ⟨by simp [q1], ?_, ?_, by simp, by simp, .raw (va b), hd1, .inr rfl, by simp, by simp [D8]⟩
   · simp; try exact ttl (by simp)
   · simp
 clear q0 q1 qa qb τ; rintro k τ hk ⟨q1, q63, q64, q65, q8, p, hd2, hp, hb, hh⟩; by_cases hlt : k < l1.length
 · have hlt' : (k : Int) < l1.length := (by omega); have hs := b6Y (c := c) (l := x0 :: l1) (k := k + 1) (by simp; omega) (by omega); have hle := b6f c (x0 :: l1) (k + 1 + 1); rw [hs] at hle; simp only [getElem_cons_succ] at hs hle; generalize hx : l1[k] = x at *; rw [length_append, length_cons] at hle; have hs3 := hs; rw [take_succ_cons] at hs3; generalize D8 c ((x0 :: l1).take (k + 1)) = J at *; simp -implicitDefEqProofs [q1, q63, q64, q65, q8, hlt, hlt', hx]; refine M9 [1000000, 1000001] 1000000 (a0H (s := J) (hd := hd2) hp [c] (by simp only [length_cons, length_nil]; omega)) (by simp [hb, hh]) rfl (by simp) ?_; rintro r hs' ⟨hd3, rfl⟩; simp -implicitDefEqProofs [q1, q63, q64, q65, q8, C6, D2]; refine M9 [1000000, 1000001] 1000000 (a0H (s := J ++ [c]) (hd := hd3) (.inr rfl) x (by simp only [length_append, length_cons, length_nil]; omega)) (by simp) rfl (by simp) ?_; rintro r hs' ⟨hd4, rfl⟩; simp -implicitDefEqProofs [q1, q63, q64, q65, q8, C6, D2]; (repeat refine ai (by omega) ?_); refine D5 hlt ⟨by simp [q1], by simp [q63], by simp [q64], by simp, by simp [q8], .raw (va b), hd4, .inr rfl, by simp, by simp [hs3]⟩
 · have hlt' : ¬ (k : Int) < l1.length := (by omega); rw [ttl (by simp; omega)] at hh; simp -implicitDefEqProofs [q1, q63, q64, q65, q8, hlt']; refine M9 [1000000, 1000001] 1000000 (a5q (b := b) (s := D8 c (x0 :: l1)) (hd := hd2) hp) (by simp [hb, hh]) rfl (by simp) ?_; rintro r hs' ⟨rfl, rfl⟩; simp -implicitDefEqProofs [C6, D2]
theorem a7Q : a7S prog 0 = some (.sl [.str [], .str [99, 114, 101, 97, 116, 101], .str [114, 101, 109, 111, 118, 101], .str [114, 101, 110, 97, 109, 101], .str [112, 117, 116], .str [100, 114, 111, 112]]) := by kernel_rfl
theorem a8H (l : List Str) (hl : l.length < 1000000) (hj : (D8 32 l).length ≤ 140737488355328) : Ctr prog 125 [.d (C7 l)] (.d (.str (D8 32 l))) := by
 refine fv (fun _ => false) func125 (by kernel_rfl) rfl rfl rfl rfl rfl ?_; have c1 := c3H l 32 hl hj; simp -implicitDefEqProofs; refine A3 c1 ?_; simp -implicitDefEqProofs
theorem d0L (a b i e : Str) : D8 32 [D8 32 [a, b, i], e] = D8 32 [a, b, i, e] := by simp [D8]
theorem d0y (a b i e g : Str) : D8 32 [D8 32 [a, b, i], e, g] = D8 32 [a, b, i, e, g] := by simp [D8]
theorem b9l {c : Chg} (h : F4 c ≠ 0) : G6 c = ([], F4 c) := by rw [G6, if_neg h]
theorem a3Y {c : Chg} (h : F4 c = 0) : G6 c = (J7 c, 0) := by rw [G6, if_pos h]
theorem c6o (x : Int) : (opW x).length ≤ 6 := by unfold opW; (repeat' split) <;> decide
theorem a9e (c : Chg) (hc : O8 c) : Ctr prog 76 [.d (A6 c)] (.tup [.d (.str (G6 c).1), .d (.int .i64 (G6 c).2)]) := by
 refine O0 (rv := .tmp 2) (rs := [.tmp 3]) (r := .d (.str (G6 c).1)) (ys := [.d (.int .i64 (G6 c).2)]) (fun i => false) (by kernel_rfl) func76 (by kernel_rfl) rfl rfl (by simp) (nbl rfl) (by kernel_rfl) rfl rfl ?_; have c1 := a6m c hc; by_cases h0 : F4 c = 0
 case neg =>
   rw [b9l h0]; generalize F4 c = E at *; simp only [B0, A6] at c1; simp -implicitDefEqProofs [A6, B0]; refine A3 c1 ?_; simp -implicitDefEqProofs [h0]
 have ho := a1x.1 h0; rw [a3Y h0]; rw [h0] at c1; obtain ⟨f1, f2, f3, f4⟩ := hc; obtain ⟨n, op, id, nm, at_, va⟩ := c; simp only at f1 f2 f3 f4; have c2 := a5p n; have hf : (I1 n).length = 22 := a5S ho.num; have hw := c6o op; have e1 := a6x nm; have e2 := a6x at_; have e3 := a6x va; have c6 := a8I nm (by omega); have c7 := a8I at_ (by omega); have c8 := a8I va (by omega); have o1 : 1 ≤ op := ho.op1; have o5 : op ≤ 5 := ho.op5; have c3 := a8H [opW op, I1 n, id] (by simp) (by simp only [D8, length_append, length_cons]; omega); have c4 := a8H [D8 32 [opW op, I1 n, id], Q6 nm] (by simp) (by simp only [D8, length_append, length_cons]; omega); have c5 := a8H [D8 32 [opW op, I1 n, id], Q6 at_, Q6 va] (by simp) (by simp only [D8, length_append, length_cons]; omega); rw [d0L] at c4; rw [d0y] at c5; simp only [C7, map_cons, map_nil] at c3 c4 c5; have hl : J7 (n, op, id, nm, at_, va) = D8 32 (a2Q (n, op, id, nm, at_, va)) := rfl; rw [hl]; simp only [a2Q]; generalize I1 n = F at *; simp only [B0, A6] at c1 c2; have hr3 : ([0, 1, 2] : List Nat) = List.range 3 := (by decide); have hr2 : ([0, 1] : List Nat) = List.range 2 := (by decide); have hop : op = 1 ∨ op = 2 ∨ op = 3 ∨ op = 4 ∨ op = 5 := (by omega); rcases hop with rfl | rfl | rfl | rfl | rfl
 · rw [show opW 1 = [99, 114, 101, 97, 116, 101] from rfl] at c3 c4 c5 ⊢; rw [show F7 1 = true from rfl, show F3 1 = false from rfl]; rw [if_pos rfl]; simp -implicitDefEqProofs [A6, B0]; refine A3 c1 ?_; simp -implicitDefEqProofs [a7Q]; refine E4 c2 ?_; simp -implicitDefEqProofs; refine ⟨by decide, E4 c3 ?_⟩; simp -implicitDefEqProofs; refine A3 c6 ?_; simp -implicitDefEqProofs; refine ⟨by decide, A3 c4 ?_⟩; simp -implicitDefEqProofs
 · rw [show opW 2 = [114, 101, 109, 111, 118, 101] from rfl] at c3 c4 c5 ⊢; rw [show F7 2 = false from rfl, show F3 2 = false from rfl]; rw [if_neg (by simp), if_neg (by simp)]; simp -implicitDefEqProofs [A6, B0]; refine A3 c1 ?_; simp -implicitDefEqProofs [a7Q]; refine E4 c2 ?_; simp -implicitDefEqProofs; refine ⟨by decide, E4 c3 ?_⟩; simp -implicitDefEqProofs
 · rw [show opW 3 = [114, 101, 110, 97, 109, 101] from rfl] at c3 c4 c5 ⊢; rw [show F7 3 = true from rfl, show F3 3 = false from rfl]; rw [if_pos rfl]; simp -implicitDefEqProofs [A6, B0]; refine A3 c1 ?_; simp -implicitDefEqProofs [a7Q]; refine E4 c2 ?_; simp -implicitDefEqProofs; refine ⟨by decide, E4 c3 ?_⟩; simp -implicitDefEqProofs; refine A3 c6 ?_; simp -implicitDefEqProofs; refine ⟨by decide, A3 c4 ?_⟩; simp -implicitDefEqProofs
 · rw [show opW 4 = [112, 117, 116] from rfl] at c3 c4 c5 ⊢; rw [show F7 4 = false from rfl, show F3 4 = true from rfl]; rw [if_neg (by simp), if_pos rfl]; simp -implicitDefEqProofs [A6, B0]; refine A3 c1 ?_; simp -implicitDefEqProofs [a7Q]; refine E4 c2 ?_; simp -implicitDefEqProofs; refine ⟨by decide, E4 c3 ?_⟩; simp -implicitDefEqProofs; refine E4 c7 ?_; simp -implicitDefEqProofs; refine E4 c8 ?_; simp -implicitDefEqProofs; refine ⟨by decide, E4 c5 ?_⟩; simp -implicitDefEqProofs
 · rw [show opW 5 = [100, 114, 111, 112] from rfl] at c3 c4 c5 ⊢; rw [show F7 5 = false from rfl, show F3 5 = true from rfl]; rw [if_neg (by simp), if_pos rfl]; simp -implicitDefEqProofs [A6, B0]; refine A3 c1 ?_; simp -implicitDefEqProofs [a7Q]; refine E4 c2 ?_; simp -implicitDefEqProofs; refine ⟨by decide, E4 c3 ?_⟩; simp -implicitDefEqProofs; refine E4 c7 ?_; simp -implicitDefEqProofs; refine E4 c8 ?_; simp -implicitDefEqProofs; refine ⟨by decide, E4 c5 ?_⟩; simp -implicitDefEqProofs
structure d6L (l : List Chg) : Prop where
 len : l.length < 900000
 all : ∀ c ∈ l, O8 c
end Go.Proofs.Tz
namespace Go.Proofs.Tz
open Go.Vw
abbrev Sl := Option Addr × Nat × Nat
def rw2 (x : Str × Sl) : D := .agg [.str x.1, .raw (.slice x.2.1 x.2.2.1 x.2.2.2)]
def X2 {α : Type} (p : α → Bool) : Nat → List α → Int
 | _, [] => -1
 | k, x :: l => if p x then k else X2 p (k + 1) l
theorem c0v {α : Type} {p : α → Bool} {l : List α} {k : Nat} (h : k < l.length) : X2 p k (l.drop k) = if p l[k] then (k : Int) else X2 p (k + 1) (l.drop (k + 1)) := by
 rw [drop_eq_getElem_cons h, X2]
theorem b4j (g : FuncId) (cs : List D) (hcs : (cs.all fun c => !c.isAgg) = true) (p : Str × Sl → Bool) (l : List (Str × Sl)) (hl : l.length < 1000000) (hp : ∀ a ∈ l, Ctr prog g ([.d (rw2 a)] ++ cs.map .d) (.d (.bool (p a)))) :
   Ctr prog 140 [.d (.sl (l.map rw2)), .d (.clo g cs)] (.d (.int .i64 (X2 p 0 l))) := by
 refine fv (fun _ => false) func140 (by kernel_rfl) rfl rfl rfl rfl rfl ?_; simp -implicitDefEqProofs; refine G7 l.length (fun k τ => τ 0 = .d (.sl (l.map rw2)) ∧ τ 1 = .d (.clo g cs) ∧ τ 7 = .d (.int .i64 l.length) ∧ τ 8 = .d (.int .i64 k) ∧ X2 p 0 l = X2 p k (l.drop k)) (by simp) ?_; rintro k τ hk ⟨h0, h1, h7, h8, hi⟩; by_cases hlt : k < l.length
 · rw [c0v hlt] at hi; have hf := hp _ (gmm hlt); simp only [rw2, cons_append, nil_append] at hf; simp -implicitDefEqProofs [h0, h1, h7, h8, rw2, hlt]; refine ⟨by simpa using hcs, A3 hf ?_⟩; by_cases he : p l[k] = true
   · simp -implicitDefEqProofs [h0, h1, h7, h8, rw2, hlt, he]; rw [hi, if_pos he]
   · simp -implicitDefEqProofs [h0, h1, h7, h8, rw2, hlt, he]; refine ⟨by omega, D5 hlt ⟨by simp [h0, rw2], by simp [h1], by simp [h7], by simp, ?_⟩⟩; rw [hi, if_neg he]
 · simp -implicitDefEqProofs [h0, h1, h7, h8, hlt]; rw [hi, drop_eq_nil_of_le (by omega)]; simp -implicitDefEqProofs [X2]
theorem b0u {α : Type} (p : α → Bool) : ∀ (l : List α) (k : Nat), X2 p k l = -1 → l.filter (fun x => !p x) = l
 | [], k, _ => rfl
 | x :: l, k, h => by
   rw [X2] at h; by_cases hx : p x = true
   · rw [if_pos hx] at h; omega
   · rw [if_neg hx] at h; simp -implicitDefEqProofs [hx, b0u p l (k + 1) h]
theorem a6T {α : Type} (p : α → Bool) : ∀ (l : List α) (k : Nat), X2 p k l ≠ -1 → ∃ i : Nat, X2 p k l = ((k + i : Nat) : Int) ∧ i < l.length ∧ (l.take i).filter (fun x => !p x) = l.take i ∧ (l.take (i + 1)).filter (fun x => !p x) = l.take i
 | [], k, h => absurd rfl h
 | x :: l, k, h => by
   rw [X2] at h ⊢; by_cases hx : p x = true
   · rw [if_pos hx]; exact ⟨0, by simp, by simp, by simp, by simp [hx]⟩
   · rw [if_neg hx] at h ⊢; obtain ⟨i, h1, h2, h3, h4⟩ := a6T p l (k + 1) h; refine ⟨i + 1, by rw [h1]; omega, by simpa using h2, ?_, ?_⟩
     · simp -implicitDefEqProofs [hx, h3]
     · rw [take_succ_cons, filter_cons, if_pos (by simp [hx]), h4, take_succ_cons]
theorem b8X (g : FuncId) (cs : List D) (hcs : (cs.all fun c => !c.isAgg) = true) (p : Str × Sl → Bool) (l : List (Str × Sl)) (hl : l.length < 1000000) (hp : ∀ a ∈ l, Ctr prog g ([.d (rw2 a)] ++ cs.map .d) (.d (.bool (p a)))) :
   Ctr prog 142 [.own true 72 (l.map rw2), .d (.clo g cs)] (.own true 72 ((l.filter fun x => !p x).map rw2)) := by
 refine fv (fun i => i == 2000010) func142 (by kernel_rfl) rfl rfl rfl rfl rfl ?_; simp -implicitDefEqProofs; refine ⟨_, rfl, b4j g cs hcs p l hl hp, ?_⟩; by_cases hn : X2 p 0 l = -1
 · simp -implicitDefEqProofs [hn, b0u p l 0 hn]
 · obtain ⟨i, h1, h2, h3, h4⟩ := a6T p l 0 hn; simp only [Nat.zero_add] at h1; have e1 : ¬ ((i : Int) = -1) := (by omega); simp -implicitDefEqProofs [h1, e1]; refine ⟨by omega, ?_⟩; refine b1K (fun n τ => ∃ (j q : Nat) (m : List (Str × Sl)), n = l.length - j ∧ j ≤ l.length ∧ τ 0 = .own true 72 (m.map rw2) ∧ τ 1 = .d (.clo g cs) ∧ τ 5 = .d (.int .i64 q) ∧ τ 6 = .d (.int .i64 j) ∧ m.length = l.length ∧ q < j ∧ m.take q = (l.take j).filter (fun x => !p x) ∧ m.drop j = l.drop j)
     (l.length - (i + 1)) ⟨i + 1, i, l, rfl, by omega, by simp, by simp, by simp, by simp, rfl, by omega, h4.symm, rfl⟩ ?_
   rintro n τ ⟨j, q, m, rfl, hj, g0, g1, g5, g6, hm, hq, ht, hd⟩; by_cases hlt : j < l.length
   · have hmj : m[j]'(by omega) = l[j] := by
       have := congrArg (fun x : List (Str × Sl) => x[0]?) hd; simpa [hlt, hm] using this
     have hf := hp _ (gmm hlt); simp only [rw2, cons_append, nil_append] at hf; have hlt' : (j : Int) < l.length := (by omega); have hf' := hf; simp -implicitDefEqProofs [g0, g1, g5, g6, hm, hlt', hlt, rw2, hmj]; refine ⟨by simpa using hcs, A3 hf ?_⟩; by_cases he : p l[j] = true
     · simp -implicitDefEqProofs [g0, g1, g5, g6, hm, hlt', hlt, rw2, hmj, he]; refine ⟨by omega, _, ?_, j + 1, rfl, by omega, q, m, rfl, rfl, by omega, hm, by omega, ?_, ?_⟩
       · omega
       · rw [F6 hlt, filter_append, ht]; simp [he]
       · rw [← drop_drop, hd, drop_drop]
     · have hq2 : q < m.length := (by omega); have hqq : m[q]? = some m[q] := getElem?_eq_getElem hq2; simp -implicitDefEqProofs [g0, g1, g5, g6, hm, hlt', hlt, rw2, hmj, he, hqq]; refine ⟨by omega, by omega, by omega, _, ?_, j + 1, rfl, by omega, q + 1, m.set q l[j], ?_, by simp, by simp, by simpa using hm, by omega, ?_, ?_⟩
       · omega
       · rw [map_set]; rfl
       · rw [take_set, F6 hq2, set_append_right _ _ (by simp; omega)]; simp only [length_take, Nat.min_eq_left (Nat.le_of_lt hq2), Nat.sub_self, set_cons_zero]; rw [F6 hlt, filter_append, ht]; simp [he]
       · rw [drop_set_of_lt (by omega), ← drop_drop, hd, drop_drop]
   · simp -implicitDefEqProofs [g0, g1, g5, g6, hm, hlt]; have hjl : j = l.length := (by omega); subst hjl; refine ⟨by omega, by omega, ?_⟩; rw [take_append_of_le_length (by simp; omega), take_take, Nat.min_self, ← map_take, ht, take_length]
end Go.Proofs.Tz
/-
  DERIVED: THE SHELF's CONTRACTS AT THIS DUMP, IN PLAIN WORDS (tools/lay-plain.mjs out of 'LcShP.lean', which tools/lay-shelf.mjs wrote): THE SAME DECLARATIONS UNDER THE SAME NAMES: 'import', 'namespace', 'open', 'def', 'theorem' AND NOTHING ELSE: no command of the shelf's: FOR A HAND-IN. Each laying: the table of numbers ('.._ren') and one theorem, a field a fact of the dump's own or the kernel's comparison; each contract: ONE APPLICATION.
-/
namespace Go.Proofs
open Go.Shelf
def Tryz.layS_ren : Go.Shelf.Ren := ⟨fun | 6 => 62 | 8 => 114 | 9 => 113 | 19 => 159 | 20 => 160 | 21 => 150 | 22 => 151 | 23 => 152 | 24 => 153 | 25 => 154 | 26 => 155 | 27 => 156 | 28 => 157 | 29 => 158 | 36 => 198 | 31 => 199 | 32 => 200 | 37 => 201 | 38 => 202 | 39 => 203 | 41 => 231 | n => n, fun | 27 => 43 | 29 => 9 | 3 => 3 | 32 => 132 | 26 => 43 | 0 => 0 | 44 => 166 | 46 => 168 | 4 => 4 | 36 => 158 | 35 => 157 | 41 => 163 | 5 => 5 | 9 => 9 | 53 => 197 | 57 => 201 | 63 => 218 | 64 => 219 | n => n, fun | n => n⟩
theorem Tryz.layS : Go.Proofs.SlLaysM.n6 prog Tryz.layS_ren := {
 mixed := by kernel_rfl
 f6 := ⟨Tryz.f62.name, by decide, func62.trans (congrArg some (by kernel_rfl))⟩
 f8 := func114.trans (congrArg some (by kernel_rfl))
 f9 := ⟨Tryz.f113.name, by decide, func113.trans (congrArg some (by kernel_rfl))⟩
 f19 := func159.trans (congrArg some (by kernel_rfl))
 f20 := func160.trans (congrArg some (by kernel_rfl))
 f21 := ⟨Tryz.f150.name, by decide, func150.trans (congrArg some (by kernel_rfl))⟩
 f22 := ⟨Tryz.f151.name, by decide, func151.trans (congrArg some (by kernel_rfl))⟩
 f23 := ⟨Tryz.f152.name, by decide, func152.trans (congrArg some (by kernel_rfl))⟩
 f24 := ⟨Tryz.f153.name, by decide, func153.trans (congrArg some (by kernel_rfl))⟩
 f25 := ⟨Tryz.f154.name, by decide, func154.trans (congrArg some (by kernel_rfl))⟩
 f26 := ⟨Tryz.f155.name, by decide, func155.trans (congrArg some (by kernel_rfl))⟩
 f27 := ⟨Tryz.f156.name, by decide, func156.trans (congrArg some (by kernel_rfl))⟩
 f28 := ⟨Tryz.f157.name, by decide, func157.trans (congrArg some (by kernel_rfl))⟩
 f29 := ⟨Tryz.f158.name, by decide, func158.trans (congrArg some (by kernel_rfl))⟩
 f31 := func199.trans (congrArg some (by kernel_rfl))
 f32 := func200.trans (congrArg some (by kernel_rfl))
 f36 := ⟨Tryz.f198.name, by decide, func198.trans (congrArg some (by kernel_rfl))⟩
 f37 := ⟨Tryz.f201.name, by decide, func201.trans (congrArg some (by kernel_rfl))⟩
 f38 := ⟨Tryz.f202.name, by decide, func202.trans (congrArg some (by kernel_rfl))⟩
 f39 := ⟨Tryz.f203.name, by decide, func203.trans (congrArg some (by kernel_rfl))⟩
 f41 := ⟨Tryz.f231.name, by decide, func231.trans (congrArg some (by kernel_rfl))⟩
 t0 := Tryz.underlying0
 a0 := Tryz.isAgg0
 z0 := Tryz.sizeOf0
 v0 := Tryz.zeroValue0
 t3 := Tryz.underlying3
 a3 := Tryz.isAgg3
 z3 := Tryz.sizeOf3
 v3 := Tryz.zeroValue3
 t4 := Tryz.underlying4
 a4 := Tryz.isAgg4
 z4 := Tryz.sizeOf4
 v4 := Tryz.zeroValue4
 t5 := Tryz.underlying5
 a5 := Tryz.isAgg5
 z5 := Tryz.sizeOf5
 v5 := Tryz.zeroValue5
 t9 := Tryz.underlying9
 a9 := Tryz.isAgg9
 z9 := Tryz.sizeOf9
 v9 := Tryz.zeroValue9
 t26 := Tryz.underlying43
 a26 := Tryz.isAgg43
 z26 := Tryz.sizeOf43
 v26 := Tryz.zeroValue43
 t27 := Tryz.underlying43
 a27 := Tryz.isAgg43
 z27 := Tryz.sizeOf43
 v27 := Tryz.zeroValue43
 t29 := Tryz.underlying9
 a29 := Tryz.isAgg9
 z29 := Tryz.sizeOf9
 v29 := Tryz.zeroValue9
 t32 := Tryz.underlying132
 a32 := Tryz.isAgg132
 z32 := Tryz.sizeOf132
 v32 := Tryz.zeroValue132
 t35 := Tryz.underlying157
 a35 := Tryz.isAgg157
 z35 := Tryz.sizeOf157
 v35 := Tryz.zeroValue157
 t36 := Tryz.underlying158
 a36 := Tryz.isAgg158
 z36 := Tryz.sizeOf158
 v36 := Tryz.zeroValue158
 t41 := Tryz.underlying163
 a41 := Tryz.isAgg163
 z41 := Tryz.sizeOf163
 v41 := Tryz.zeroValue163
 t44 := Tryz.underlying166
 a44 := Tryz.isAgg166
 z44 := Tryz.sizeOf166
 v44 := Tryz.zeroValue166
 t46 := Tryz.underlying168
 a46 := Tryz.isAgg168
 z46 := Tryz.sizeOf168
 v46 := Tryz.zeroValue168
 t53 := Tryz.underlying197
 a53 := Tryz.isAgg197
 z53 := Tryz.sizeOf197
 v53 := Tryz.zeroValue197
 t57 := Tryz.underlying201
 a57 := Tryz.isAgg201
 z57 := Tryz.sizeOf201
 v57 := Tryz.zeroValue201
 t63 := Tryz.underlying218
 a63 := Tryz.isAgg218
 z63 := Tryz.sizeOf218
 v63 := Tryz.zeroValue218
 t64 := Tryz.underlying219
 a64 := Tryz.isAgg219
 z64 := Tryz.sizeOf219
 v64 := Tryz.zeroValue219 }
def Tryz.layF_ren : Go.Shelf.Ren := ⟨fun | 6 => 145 | 15 => 114 | 14 => 189 | 28 => 159 | 29 => 160 | 20 => 218 | 21 => 219 | 22 => 220 | 23 => 221 | 24 => 222 | 25 => 223 | 26 => 224 | 27 => 225 | 46 => 245 | 47 => 199 | 48 => 200 | 49 => 246 | 50 => 247 | 57 => 255 | n => n, fun | 22 => 46 | 24 => 72 | 25 => 153 | 3 => 3 | 39 => 132 | 0 => 0 | 53 => 166 | 55 => 168 | 4 => 4 | 46 => 158 | 45 => 157 | 50 => 163 | 5 => 5 | 9 => 9 | 66 => 197 | 70 => 201 | 76 => 218 | 77 => 219 | n => n, fun | n => n⟩
theorem Tryz.layF : Go.Proofs.SlLaysF0.n6 prog Tryz.layF_ren := {
 mixed := by kernel_rfl
 f6 := ⟨Tryz.f145.name, by decide, func145.trans (congrArg some (by kernel_rfl))⟩
 f14 := ⟨Tryz.f189.name, by decide, func189.trans (congrArg some (by kernel_rfl))⟩
 f15 := func114.trans (congrArg some (by kernel_rfl))
 f20 := ⟨Tryz.f218.name, by decide, func218.trans (congrArg some (by kernel_rfl))⟩
 f21 := ⟨Tryz.f219.name, by decide, func219.trans (congrArg some (by kernel_rfl))⟩
 f22 := ⟨Tryz.f220.name, by decide, func220.trans (congrArg some (by kernel_rfl))⟩
 f23 := ⟨Tryz.f221.name, by decide, func221.trans (congrArg some (by kernel_rfl))⟩
 f24 := ⟨Tryz.f222.name, by decide, func222.trans (congrArg some (by kernel_rfl))⟩
 f25 := ⟨Tryz.f223.name, by decide, func223.trans (congrArg some (by kernel_rfl))⟩
 f26 := ⟨Tryz.f224.name, by decide, func224.trans (congrArg some (by kernel_rfl))⟩
 f27 := ⟨Tryz.f225.name, by decide, func225.trans (congrArg some (by kernel_rfl))⟩
 f28 := func159.trans (congrArg some (by kernel_rfl))
 f29 := func160.trans (congrArg some (by kernel_rfl))
 f46 := ⟨Tryz.f245.name, by decide, func245.trans (congrArg some (by kernel_rfl))⟩
 f47 := func199.trans (congrArg some (by kernel_rfl))
 f48 := func200.trans (congrArg some (by kernel_rfl))
 f49 := ⟨Tryz.f246.name, by decide, func246.trans (congrArg some (by kernel_rfl))⟩
 f50 := ⟨Tryz.f247.name, by decide, func247.trans (congrArg some (by kernel_rfl))⟩
 f57 := ⟨Tryz.f255.name, by decide, func255.trans (congrArg some (by kernel_rfl))⟩
 t0 := Tryz.underlying0
 a0 := Tryz.isAgg0
 z0 := Tryz.sizeOf0
 v0 := Tryz.zeroValue0
 t3 := Tryz.underlying3
 a3 := Tryz.isAgg3
 z3 := Tryz.sizeOf3
 v3 := Tryz.zeroValue3
 t4 := Tryz.underlying4
 a4 := Tryz.isAgg4
 z4 := Tryz.sizeOf4
 v4 := Tryz.zeroValue4
 t5 := Tryz.underlying5
 a5 := Tryz.isAgg5
 z5 := Tryz.sizeOf5
 v5 := Tryz.zeroValue5
 t9 := Tryz.underlying9
 a9 := Tryz.isAgg9
 z9 := Tryz.sizeOf9
 v9 := Tryz.zeroValue9
 t22 := Tryz.underlying46
 a22 := Tryz.isAgg46
 z22 := Tryz.sizeOf46
 v22 := Tryz.zeroValue46
 t25 := Tryz.underlying153
 a25 := Tryz.isAgg153
 z25 := Tryz.sizeOf153
 v25 := Tryz.zeroValue153
 t39 := Tryz.underlying132
 a39 := Tryz.isAgg132
 z39 := Tryz.sizeOf132
 v39 := Tryz.zeroValue132
 t45 := Tryz.underlying157
 a45 := Tryz.isAgg157
 z45 := Tryz.sizeOf157
 v45 := Tryz.zeroValue157
 t46 := Tryz.underlying158
 a46 := Tryz.isAgg158
 z46 := Tryz.sizeOf158
 v46 := Tryz.zeroValue158
 t50 := Tryz.underlying163
 a50 := Tryz.isAgg163
 z50 := Tryz.sizeOf163
 v50 := Tryz.zeroValue163
 t53 := Tryz.underlying166
 a53 := Tryz.isAgg166
 z53 := Tryz.sizeOf166
 v53 := Tryz.zeroValue166
 t55 := Tryz.underlying168
 a55 := Tryz.isAgg168
 z55 := Tryz.sizeOf168
 v55 := Tryz.zeroValue168
 t66 := Tryz.underlying197
 a66 := Tryz.isAgg197
 z66 := Tryz.sizeOf197
 v66 := Tryz.zeroValue197
 t70 := Tryz.underlying201
 a70 := Tryz.isAgg201
 z70 := Tryz.sizeOf201
 v70 := Tryz.zeroValue201
 t76 := Tryz.underlying218
 a76 := Tryz.isAgg218
 z76 := Tryz.sizeOf218
 v76 := Tryz.zeroValue218
 t77 := Tryz.underlying219
 a77 := Tryz.isAgg219
 z77 := Tryz.sizeOf219
 v77 := Tryz.zeroValue219 }
def Tryz.layQ_ren : Go.Shelf.Ren := ⟨fun | 6 => 74 | 15 => 114 | 14 => 124 | 28 => 159 | 29 => 160 | 20 => 172 | 21 => 173 | 22 => 174 | 23 => 175 | 24 => 176 | 25 => 177 | 26 => 178 | 27 => 179 | 46 => 207 | 47 => 199 | 48 => 200 | 49 => 208 | 50 => 209 | 57 => 241 | n => n, fun | 22 => 22 | 24 => 35 | 25 => 107 | 3 => 3 | 39 => 132 | 0 => 0 | 53 => 166 | 55 => 168 | 4 => 4 | 46 => 158 | 45 => 157 | 50 => 163 | 5 => 5 | 9 => 9 | 66 => 197 | 70 => 201 | 76 => 218 | 77 => 219 | n => n, fun | n => n⟩
theorem Tryz.layQ : Go.Proofs.SlLaysF0.n6 prog Tryz.layQ_ren := {
 mixed := by kernel_rfl
 f6 := ⟨Tryz.f74.name, by decide, func74.trans (congrArg some (by kernel_rfl))⟩
 f14 := ⟨Tryz.f124.name, by decide, func124.trans (congrArg some (by kernel_rfl))⟩
 f15 := func114.trans (congrArg some (by kernel_rfl))
 f20 := ⟨Tryz.f172.name, by decide, func172.trans (congrArg some (by kernel_rfl))⟩
 f21 := ⟨Tryz.f173.name, by decide, func173.trans (congrArg some (by kernel_rfl))⟩
 f22 := ⟨Tryz.f174.name, by decide, func174.trans (congrArg some (by kernel_rfl))⟩
 f23 := ⟨Tryz.f175.name, by decide, func175.trans (congrArg some (by kernel_rfl))⟩
 f24 := ⟨Tryz.f176.name, by decide, func176.trans (congrArg some (by kernel_rfl))⟩
 f25 := ⟨Tryz.f177.name, by decide, func177.trans (congrArg some (by kernel_rfl))⟩
 f26 := ⟨Tryz.f178.name, by decide, func178.trans (congrArg some (by kernel_rfl))⟩
 f27 := ⟨Tryz.f179.name, by decide, func179.trans (congrArg some (by kernel_rfl))⟩
 f28 := func159.trans (congrArg some (by kernel_rfl))
 f29 := func160.trans (congrArg some (by kernel_rfl))
 f46 := ⟨Tryz.f207.name, by decide, func207.trans (congrArg some (by kernel_rfl))⟩
 f47 := func199.trans (congrArg some (by kernel_rfl))
 f48 := func200.trans (congrArg some (by kernel_rfl))
 f49 := ⟨Tryz.f208.name, by decide, func208.trans (congrArg some (by kernel_rfl))⟩
 f50 := ⟨Tryz.f209.name, by decide, func209.trans (congrArg some (by kernel_rfl))⟩
 f57 := ⟨Tryz.f241.name, by decide, func241.trans (congrArg some (by kernel_rfl))⟩
 t0 := Tryz.underlying0
 a0 := Tryz.isAgg0
 z0 := Tryz.sizeOf0
 v0 := Tryz.zeroValue0
 t3 := Tryz.underlying3
 a3 := Tryz.isAgg3
 z3 := Tryz.sizeOf3
 v3 := Tryz.zeroValue3
 t4 := Tryz.underlying4
 a4 := Tryz.isAgg4
 z4 := Tryz.sizeOf4
 v4 := Tryz.zeroValue4
 t5 := Tryz.underlying5
 a5 := Tryz.isAgg5
 z5 := Tryz.sizeOf5
 v5 := Tryz.zeroValue5
 t9 := Tryz.underlying9
 a9 := Tryz.isAgg9
 z9 := Tryz.sizeOf9
 v9 := Tryz.zeroValue9
 t22 := Tryz.underlying22
 a22 := Tryz.isAgg22
 z22 := Tryz.sizeOf22
 v22 := Tryz.zeroValue22
 t25 := Tryz.underlying107
 a25 := Tryz.isAgg107
 z25 := Tryz.sizeOf107
 v25 := Tryz.zeroValue107
 t39 := Tryz.underlying132
 a39 := Tryz.isAgg132
 z39 := Tryz.sizeOf132
 v39 := Tryz.zeroValue132
 t45 := Tryz.underlying157
 a45 := Tryz.isAgg157
 z45 := Tryz.sizeOf157
 v45 := Tryz.zeroValue157
 t46 := Tryz.underlying158
 a46 := Tryz.isAgg158
 z46 := Tryz.sizeOf158
 v46 := Tryz.zeroValue158
 t50 := Tryz.underlying163
 a50 := Tryz.isAgg163
 z50 := Tryz.sizeOf163
 v50 := Tryz.zeroValue163
 t53 := Tryz.underlying166
 a53 := Tryz.isAgg166
 z53 := Tryz.sizeOf166
 v53 := Tryz.zeroValue166
 t55 := Tryz.underlying168
 a55 := Tryz.isAgg168
 z55 := Tryz.sizeOf168
 v55 := Tryz.zeroValue168
 t66 := Tryz.underlying197
 a66 := Tryz.isAgg197
 z66 := Tryz.sizeOf197
 v66 := Tryz.zeroValue197
 t70 := Tryz.underlying201
 a70 := Tryz.isAgg201
 z70 := Tryz.sizeOf201
 v70 := Tryz.zeroValue201
 t76 := Tryz.underlying218
 a76 := Tryz.isAgg218
 z76 := Tryz.sizeOf218
 v76 := Tryz.zeroValue218
 t77 := Tryz.underlying219
 a77 := Tryz.isAgg219
 z77 := Tryz.sizeOf219
 v77 := Tryz.zeroValue219 }
def Tryz.layT_ren : Go.Shelf.Ren := ⟨fun | 6 => 162 | 15 => 114 | 14 => 205 | 28 => 159 | 29 => 160 | 20 => 232 | 21 => 233 | 22 => 234 | 23 => 235 | 24 => 236 | 25 => 237 | 26 => 238 | 27 => 239 | 46 => 251 | 47 => 199 | 48 => 200 | 49 => 252 | 50 => 253 | 57 => 259 | n => n, fun | 22 => 43 | 24 => 9 | 25 => 106 | 3 => 3 | 39 => 132 | 0 => 0 | 53 => 166 | 55 => 168 | 4 => 4 | 46 => 158 | 45 => 157 | 50 => 163 | 5 => 5 | 9 => 9 | 66 => 197 | 70 => 201 | 76 => 218 | 77 => 219 | n => n, fun | n => n⟩
theorem Tryz.layT : Go.Proofs.SlLaysF.n6 prog Tryz.layT_ren := {
 mixed := by kernel_rfl
 f6 := ⟨Tryz.f162.name, by decide, func162.trans (congrArg some (by kernel_rfl))⟩
 f14 := ⟨Tryz.f205.name, by decide, func205.trans (congrArg some (by kernel_rfl))⟩
 f15 := func114.trans (congrArg some (by kernel_rfl))
 f20 := ⟨Tryz.f232.name, by decide, func232.trans (congrArg some (by kernel_rfl))⟩
 f21 := ⟨Tryz.f233.name, by decide, func233.trans (congrArg some (by kernel_rfl))⟩
 f22 := ⟨Tryz.f234.name, by decide, func234.trans (congrArg some (by kernel_rfl))⟩
 f23 := ⟨Tryz.f235.name, by decide, func235.trans (congrArg some (by kernel_rfl))⟩
 f24 := ⟨Tryz.f236.name, by decide, func236.trans (congrArg some (by kernel_rfl))⟩
 f25 := ⟨Tryz.f237.name, by decide, func237.trans (congrArg some (by kernel_rfl))⟩
 f26 := ⟨Tryz.f238.name, by decide, func238.trans (congrArg some (by kernel_rfl))⟩
 f27 := ⟨Tryz.f239.name, by decide, func239.trans (congrArg some (by kernel_rfl))⟩
 f28 := func159.trans (congrArg some (by kernel_rfl))
 f29 := func160.trans (congrArg some (by kernel_rfl))
 f46 := ⟨Tryz.f251.name, by decide, func251.trans (congrArg some (by kernel_rfl))⟩
 f47 := func199.trans (congrArg some (by kernel_rfl))
 f48 := func200.trans (congrArg some (by kernel_rfl))
 f49 := ⟨Tryz.f252.name, by decide, func252.trans (congrArg some (by kernel_rfl))⟩
 f50 := ⟨Tryz.f253.name, by decide, func253.trans (congrArg some (by kernel_rfl))⟩
 f57 := ⟨Tryz.f259.name, by decide, func259.trans (congrArg some (by kernel_rfl))⟩
 t0 := Tryz.underlying0
 a0 := Tryz.isAgg0
 z0 := Tryz.sizeOf0
 v0 := Tryz.zeroValue0
 t3 := Tryz.underlying3
 a3 := Tryz.isAgg3
 z3 := Tryz.sizeOf3
 v3 := Tryz.zeroValue3
 t4 := Tryz.underlying4
 a4 := Tryz.isAgg4
 z4 := Tryz.sizeOf4
 v4 := Tryz.zeroValue4
 t5 := Tryz.underlying5
 a5 := Tryz.isAgg5
 z5 := Tryz.sizeOf5
 v5 := Tryz.zeroValue5
 t9 := Tryz.underlying9
 a9 := Tryz.isAgg9
 z9 := Tryz.sizeOf9
 v9 := Tryz.zeroValue9
 t22 := Tryz.underlying43
 a22 := Tryz.isAgg43
 z22 := Tryz.sizeOf43
 v22 := Tryz.zeroValue43
 a24 := Tryz.isAgg9
 z24 := Tryz.sizeOf9
 t25 := Tryz.underlying106
 a25 := Tryz.isAgg106
 z25 := Tryz.sizeOf106
 v25 := Tryz.zeroValue106
 t39 := Tryz.underlying132
 a39 := Tryz.isAgg132
 z39 := Tryz.sizeOf132
 v39 := Tryz.zeroValue132
 t45 := Tryz.underlying157
 a45 := Tryz.isAgg157
 z45 := Tryz.sizeOf157
 v45 := Tryz.zeroValue157
 t46 := Tryz.underlying158
 a46 := Tryz.isAgg158
 z46 := Tryz.sizeOf158
 v46 := Tryz.zeroValue158
 t50 := Tryz.underlying163
 a50 := Tryz.isAgg163
 z50 := Tryz.sizeOf163
 v50 := Tryz.zeroValue163
 t53 := Tryz.underlying166
 a53 := Tryz.isAgg166
 z53 := Tryz.sizeOf166
 v53 := Tryz.zeroValue166
 t55 := Tryz.underlying168
 a55 := Tryz.isAgg168
 z55 := Tryz.sizeOf168
 v55 := Tryz.zeroValue168
 t66 := Tryz.underlying197
 a66 := Tryz.isAgg197
 z66 := Tryz.sizeOf197
 v66 := Tryz.zeroValue197
 t70 := Tryz.underlying201
 a70 := Tryz.isAgg201
 z70 := Tryz.sizeOf201
 v70 := Tryz.zeroValue201
 t76 := Tryz.underlying218
 a76 := Tryz.isAgg218
 z76 := Tryz.sizeOf218
 v76 := Tryz.zeroValue218
 t77 := Tryz.underlying219
 a77 := Tryz.isAgg219
 z77 := Tryz.sizeOf219
 v77 := Tryz.zeroValue219 }
def Tryz.layU_ren : Go.Shelf.Ren := ⟨fun | 6 => 162 | 15 => 114 | 14 => 205 | 28 => 159 | 29 => 160 | 20 => 232 | 21 => 233 | 22 => 234 | 23 => 235 | 24 => 236 | 25 => 237 | 26 => 238 | 27 => 239 | 46 => 251 | 47 => 199 | 48 => 200 | 49 => 252 | 50 => 253 | 57 => 259 | n => n, fun | 22 => 43 | 24 => 9 | 25 => 106 | 3 => 3 | 39 => 132 | 0 => 0 | 53 => 166 | 55 => 168 | 4 => 4 | 46 => 158 | 45 => 157 | 50 => 163 | 5 => 5 | 9 => 9 | 66 => 197 | 70 => 201 | 76 => 218 | 77 => 219 | n => n, fun | n => n⟩
theorem Tryz.layU : Go.Proofs.SlLaysF0.n6 prog Tryz.layU_ren := {
 mixed := by kernel_rfl
 f6 := ⟨Tryz.f162.name, by decide, func162.trans (congrArg some (by kernel_rfl))⟩
 f14 := ⟨Tryz.f205.name, by decide, func205.trans (congrArg some (by kernel_rfl))⟩
 f15 := func114.trans (congrArg some (by kernel_rfl))
 f20 := ⟨Tryz.f232.name, by decide, func232.trans (congrArg some (by kernel_rfl))⟩
 f21 := ⟨Tryz.f233.name, by decide, func233.trans (congrArg some (by kernel_rfl))⟩
 f22 := ⟨Tryz.f234.name, by decide, func234.trans (congrArg some (by kernel_rfl))⟩
 f23 := ⟨Tryz.f235.name, by decide, func235.trans (congrArg some (by kernel_rfl))⟩
 f24 := ⟨Tryz.f236.name, by decide, func236.trans (congrArg some (by kernel_rfl))⟩
 f25 := ⟨Tryz.f237.name, by decide, func237.trans (congrArg some (by kernel_rfl))⟩
 f26 := ⟨Tryz.f238.name, by decide, func238.trans (congrArg some (by kernel_rfl))⟩
 f27 := ⟨Tryz.f239.name, by decide, func239.trans (congrArg some (by kernel_rfl))⟩
 f28 := func159.trans (congrArg some (by kernel_rfl))
 f29 := func160.trans (congrArg some (by kernel_rfl))
 f46 := ⟨Tryz.f251.name, by decide, func251.trans (congrArg some (by kernel_rfl))⟩
 f47 := func199.trans (congrArg some (by kernel_rfl))
 f48 := func200.trans (congrArg some (by kernel_rfl))
 f49 := ⟨Tryz.f252.name, by decide, func252.trans (congrArg some (by kernel_rfl))⟩
 f50 := ⟨Tryz.f253.name, by decide, func253.trans (congrArg some (by kernel_rfl))⟩
 f57 := ⟨Tryz.f259.name, by decide, func259.trans (congrArg some (by kernel_rfl))⟩
 t0 := Tryz.underlying0
 a0 := Tryz.isAgg0
 z0 := Tryz.sizeOf0
 v0 := Tryz.zeroValue0
 t3 := Tryz.underlying3
 a3 := Tryz.isAgg3
 z3 := Tryz.sizeOf3
 v3 := Tryz.zeroValue3
 t4 := Tryz.underlying4
 a4 := Tryz.isAgg4
 z4 := Tryz.sizeOf4
 v4 := Tryz.zeroValue4
 t5 := Tryz.underlying5
 a5 := Tryz.isAgg5
 z5 := Tryz.sizeOf5
 v5 := Tryz.zeroValue5
 t9 := Tryz.underlying9
 a9 := Tryz.isAgg9
 z9 := Tryz.sizeOf9
 v9 := Tryz.zeroValue9
 t22 := Tryz.underlying43
 a22 := Tryz.isAgg43
 z22 := Tryz.sizeOf43
 v22 := Tryz.zeroValue43
 t25 := Tryz.underlying106
 a25 := Tryz.isAgg106
 z25 := Tryz.sizeOf106
 v25 := Tryz.zeroValue106
 t39 := Tryz.underlying132
 a39 := Tryz.isAgg132
 z39 := Tryz.sizeOf132
 v39 := Tryz.zeroValue132
 t45 := Tryz.underlying157
 a45 := Tryz.isAgg157
 z45 := Tryz.sizeOf157
 v45 := Tryz.zeroValue157
 t46 := Tryz.underlying158
 a46 := Tryz.isAgg158
 z46 := Tryz.sizeOf158
 v46 := Tryz.zeroValue158
 t50 := Tryz.underlying163
 a50 := Tryz.isAgg163
 z50 := Tryz.sizeOf163
 v50 := Tryz.zeroValue163
 t53 := Tryz.underlying166
 a53 := Tryz.isAgg166
 z53 := Tryz.sizeOf166
 v53 := Tryz.zeroValue166
 t55 := Tryz.underlying168
 a55 := Tryz.isAgg168
 z55 := Tryz.sizeOf168
 v55 := Tryz.zeroValue168
 t66 := Tryz.underlying197
 a66 := Tryz.isAgg197
 z66 := Tryz.sizeOf197
 v66 := Tryz.zeroValue197
 t70 := Tryz.underlying201
 a70 := Tryz.isAgg201
 z70 := Tryz.sizeOf201
 v70 := Tryz.zeroValue201
 t76 := Tryz.underlying218
 a76 := Tryz.isAgg218
 z76 := Tryz.sizeOf218
 v76 := Tryz.zeroValue218
 t77 := Tryz.underlying219
 a77 := Tryz.isAgg219
 z77 := Tryz.sizeOf219
 v77 := Tryz.zeroValue219 }
def Tryz.layC_ren : Go.Shelf.Ren := ⟨fun | 44 => 144 | n => n, fun | 25 => 43 | 26 => 9 | 3 => 3 | 4 => 4 | 0 => 0 | n => n, fun | n => n⟩
theorem Tryz.layC : Go.Proofs.SlLaysN.n44 prog Tryz.layC_ren := {
 mixed := by kernel_rfl
 f44 := ⟨Tryz.f144.name, by decide, func144.trans (congrArg some (by kernel_rfl))⟩
 t0 := Tryz.underlying0
 a0 := Tryz.isAgg0
 z0 := Tryz.sizeOf0
 v0 := Tryz.zeroValue0
 t3 := Tryz.underlying3
 a3 := Tryz.isAgg3
 z3 := Tryz.sizeOf3
 v3 := Tryz.zeroValue3
 t4 := Tryz.underlying4
 a4 := Tryz.isAgg4
 z4 := Tryz.sizeOf4
 v4 := Tryz.zeroValue4
 t25 := Tryz.underlying43
 a25 := Tryz.isAgg43
 z25 := Tryz.sizeOf43
 v25 := Tryz.zeroValue43
 t26 := Tryz.underlying9
 a26 := Tryz.isAgg9
 z26 := Tryz.sizeOf9
 v26 := Tryz.zeroValue9
 i26 := by kernel_rfl }
def Tryz.keysA_ren : Go.Shelf.Ren := ⟨fun | 7 => 117 | 10 => 163 | n => n, fun | 23 => 80 | 26 => 9 | 3 => 9 | 28 => 136 | 0 => 0 | 27 => 135 | 33 => 89 | 4 => 4 | n => n, fun | n => n⟩
theorem Tryz.keysA : Go.Proofs.SlLaysZ.n7 prog Tryz.keysA_ren := {
 mixed := by kernel_rfl
 f7 := ⟨Tryz.f117.name, by decide, func117.trans (congrArg some (by kernel_rfl))⟩
 f10 := ⟨Tryz.f163.name, by decide, func163.trans (congrArg some (by kernel_rfl))⟩
 t0 := Tryz.underlying0
 a0 := Tryz.isAgg0
 z0 := Tryz.sizeOf0
 v0 := Tryz.zeroValue0
 t4 := Tryz.underlying4
 a4 := Tryz.isAgg4
 z4 := Tryz.sizeOf4
 v4 := Tryz.zeroValue4
 t23 := Tryz.underlying80
 a23 := Tryz.isAgg80
 z23 := Tryz.sizeOf80
 v23 := Tryz.zeroValue80
 t26 := Tryz.underlying9
 a26 := Tryz.isAgg9
 z26 := Tryz.sizeOf9
 v26 := Tryz.zeroValue9
 t27 := Tryz.underlying135
 a27 := Tryz.isAgg135
 z27 := Tryz.sizeOf135
 v27 := Tryz.zeroValue135
 t28 := Tryz.underlying136
 a28 := Tryz.isAgg136
 z28 := Tryz.sizeOf136
 v28 := Tryz.zeroValue136
 t33 := Tryz.underlying89
 a33 := Tryz.isAgg89
 z33 := Tryz.sizeOf89
 v33 := Tryz.zeroValue89 }
def Tryz.coll_ren : Go.Shelf.Ren := ⟨fun | 8 => 161 | 11 => 204 | n => n, fun | 26 => 9 | 28 => 136 | 24 => 43 | 0 => 0 | 33 => 89 | 4 => 4 | n => n, fun | n => n⟩
theorem Tryz.coll : Go.Proofs.SlLaysZ.n8 prog Tryz.coll_ren := {
 mixed := by kernel_rfl
 f8 := ⟨Tryz.f161.name, by decide, func161.trans (congrArg some (by kernel_rfl))⟩
 f11 := ⟨Tryz.f204.name, by decide, func204.trans (congrArg some (by kernel_rfl))⟩
 t0 := Tryz.underlying0
 a0 := Tryz.isAgg0
 z0 := Tryz.sizeOf0
 v0 := Tryz.zeroValue0
 t24 := Tryz.underlying43
 a24 := Tryz.isAgg43
 z24 := Tryz.sizeOf43
 v24 := Tryz.zeroValue43
 t26 := Tryz.underlying9
 a26 := Tryz.isAgg9
 z26 := Tryz.sizeOf9
 v26 := Tryz.zeroValue9
 t28 := Tryz.underlying136
 a28 := Tryz.isAgg136
 z28 := Tryz.sizeOf136
 v28 := Tryz.zeroValue136
 i26 := by kernel_rfl }
end Go.Proofs
namespace Go.Proofs.Tz
open Go.Vw Go.Sort Go.RowKit
theorem b0G (w : World) (L : Nat → Nat → Prop) : ∀ (l : List Str), A5 w L (l.map .str) (l.map fun s => [encStr s])
 | [] => by simp [A5]
 | s :: l => by
   simp only [map_cons, A5]; exact ⟨_, _, rfl, by simp [Rep, encStr], b0G w L l⟩
theorem a3U : ∀ (l : List Str), (l.map fun s => [encStr s]).flatten = l.map encStr
 | [] => rfl
 | s :: l => by simp [a3U l]
theorem a7W {w : World} {L : Nat → Nat → Prop} : ∀ {l : List Str} {css : List (List Value)}, A5 w L (l.map .str) css → css = l.map fun s => [encStr s]
 | [], css, h => by simpa [A5] using h
 | s :: l, css, h => by
   simp only [map_cons, A5] at h; obtain ⟨c, cs, rfl, h1, h2⟩ := h; rw [a7W h2]; simp only [Rep] at h1; subst h1; rfl
def I7 (l : List Str) : List Str := l.mergeSort fun x y => decide (x ≤ y)
theorem b2n {w : World} {g : Nat} {l : List Str} (h : Holds id w g 0 (l.map encStr).toArray) : Holds encStr w g 0 l.toArray := by
 intro j hj; have hj' : j < l.length := (by simpa using hj); have := h j (by simpa using hj'); simpa [hj'] using this
theorem b2S (l : List Str) (hl : l.length < 1000000) : a4V prog 62 9 (l.map .str) [] ((I7 l).map .str) := by
 refine ⟨enters_of func62 (by kernel_rfl) rfl, fun w L og v vals hlok hgl hown hrc => ?_⟩; simp only [RCs] at hrc; subst hrc; obtain ⟨css0, sz0, g1, g2, g3, g4, g5⟩ := id hown; rcases g4.2 with ⟨hv, hn⟩ | ⟨g, cap, cur, hv, _⟩
 · have hl0 : l = [] := (by simpa using hn); subst hl0; subst hv; have h := AnyM.slices_Sort_string_none Tryz.layS none 0 w
   change Calls prog 62 _ _ _ at h
   refine h.mono ?_; rintro e w' ⟨rfl, rfl⟩; exact ⟨L, rfl, F1.refl _ _, hlok, fun _ _ _ _ => Iff.rfl, by simpa [I7] using hown⟩
 · subst hv; obtain ⟨css, h1, h2, h3, h4, h5⟩ := hown.holds; have hcss := a7W h1; subst hcss; rw [a3U] at h3; have h := AnyM.slices_Sort_string Tryz.layS g 0 cap l w (b2n h3) h4 (by omega)
   change Calls prog 62 _ _ _ at h
   rw [length_map]; refine h.mono ?_; rintro e w' ⟨rfl, n, os, rfl⟩; rw [a7n encStr]; have hlen : (I7 l).length = l.length := (by simp [I7]); have hog := (hown.blk (g := g) rfl).1; have hs := hown.sorted hlok (b0G w L (I7 l)) (by simp [hlen]) (fun sz hsz c hc => by
     obtain ⟨s, _, rfl⟩ := mem_map.1 hc; rw [show (prog.info? (ety 9)).map (·.size) = some 1 from Tryz.sz_9] at hsz; simpa using hsz) n os (F := ((I7 l).map encStr).toArray) (by rw [a3U])
   rw [length_map] at hs; have e : (List.map encStr (I7 l)).toArray = Array.map encStr (l.mergeSort fun x y => decide (x ≤ y)).toArray := by simp [I7]
   rw [I5, e] at hs; refine ⟨L, rfl, ?_, hs.2.2, fun _ _ _ _ => Iff.rfl, hs.1⟩; rw [hog]; exact hs.2.1
def a3u (x : Str × Sl) : List Value := [encStr x.1, .slice x.2.1 x.2.2.1 x.2.2.2]
theorem b5p (w : World) (L : Nat → Nat → Prop) : ∀ (l : List (Str × Sl)), A5 w L (l.map rw2) (l.map a3u)
 | [] => by simp [A5]
 | s :: l => by
   simp only [map_cons, A5]; refine ⟨_, _, rfl, ?_, b5p w L l⟩; simp only [rw2, Rep, A5]; exact ⟨[[encStr s.1], [.slice s.2.1 s.2.2.1 s.2.2.2]], ⟨_, _, rfl, by simp [encStr], _, _, rfl, ⟨rfl, by simp [Value.oneCell'], rfl⟩, rfl⟩, rfl⟩
theorem b3L {w : World} {L : Nat → Nat → Prop} : ∀ {l : List (Str × Sl)} {css : List (List Value)}, A5 w L (l.map rw2) css → css = l.map a3u
 | [], css, h => by simpa [A5] using h
 | s :: l, css, h => by
   simp only [map_cons, A5] at h; obtain ⟨c, cs, rfl, h1, h2⟩ := h; simp only [rw2, Rep, A5] at h1; obtain ⟨css, ⟨_, _, rfl, rfl, _, _, rfl, ⟨rfl, h3, h4⟩, rfl⟩, rfl⟩ := h1; rw [b3L h2]; rfl
def a4F (x y : Str × Sl) : Int := if Op.bytesLess x.1 y.1 then -1 else 1
end Go.Proofs.Tz
namespace Go.Proofs.Tz
open Go.Vw Go.Sort Go.RowKit Go.Lib
theorem ltR (x y : Str × Sl) : ltOf a4F x y = Op.bytesLess x.1 y.1 := by
 unfold ltOf a4F; cases Op.bytesLess x.1 y.1 <;> simp
theorem c7o : SWO (ltOf a4F) where
 irrefl x := by rw [ltR, bytesLess_eq]; simp
 trans x y z h1 h2 := by
   rw [ltR, bytesLess_eq] at *; simp only [decide_eq_true_eq] at *; exact List.lt_trans h1 h2
 ntrans x y z h1 h2 := by
   rw [ltR, bytesLess_eq] at *; simp only [decide_eq_false_iff_not, List.not_lt] at *; exact List.le_trans h2 h1
theorem c0M (a b : ByteArray) (u v : Value) (W : World) : Calls prog 146 #[.agg #[.string a, u], .agg #[.string b, v]] W fun e w' => e = .returned (.int .i64 (if Op.bytesLess a.toList b.toList then -1 else 1)) ∧ ∃ q os', w' = grow (W.drewN q) os' := by
 cases hb : Op.bytesLess a.toList b.toList
 · go_enter func146, Tryz.ntmps146
   go_wp2
   go_ret
   exact ⟨rfl, 0, _, by rw [alloc_eq_grow, alloc_eq_grow, grow_grow]; rfl⟩
 · go_enter func146, Tryz.ntmps146
   go_wp2
   go_ret
   exact ⟨rfl, 0, _, by rw [alloc_eq_grow, alloc_eq_grow, grow_grow]; rfl⟩
instance : Inhabited (Str × Sl) := ⟨([], none, 0, 0)⟩
def Z7 (l : List (Str × Sl)) : List (Str × Sl) := (pdq (ltOf a4F) l.toArray 0 l.length (Lib.bitLen l.length) true true).toList
theorem a6q (l : List (Str × Sl)) : (Z7 l).Perm l ∧ ∀ i j (hij : i < j) (hj : j < (Z7 l).length), Op.bytesLess (Z7 l)[j].1 ((Z7 l)[i]'(by omega)).1 = false := by
 have h := pdq_sorts (ltOf a4F) c7o l.toArray 0 l.length (Lib.bitLen l.length) true true (Nat.zero_le _) (by simp) (Or.inl rfl); obtain ⟨⟨h1, h2, h3⟩, h4⟩ := h; have hs : (Z7 l).length = l.length := (by simpa [Z7] using h1); refine ⟨?_, fun i j hij hj => ?_⟩
 · have e1 : (pdq (ltOf a4F) l.toArray 0 l.length (Lib.bitLen l.length) true true).extract 0 l.length = pdq (ltOf a4F) l.toArray 0 l.length (Lib.bitLen l.length) true true := by
     apply Array.extract_eq_self_of_le; rw [h1]; simp
   rw [e1] at h3; simpa [Z7] using h3
 · have := h4 i j (Nat.zero_le _) hij (by omega); rw [ltR] at this; have hj' : j < (pdq (ltOf a4F) l.toArray 0 l.length (Lib.bitLen l.length) true true).size := (by simpa [Z7] using hj); rw [getElem!_pos _ j hj', getElem!_pos _ i (by omega)] at this; simpa [Z7] using this
theorem b5b {α : Type} [Inhabited α] (enc : α → List Value) (k : Nat) (l : List α) (hk : ∀ x, (enc x).length = k) (hp : 0 < k) : flatK enc k l.toArray = (l.map enc).flatten.toArray := by
 have hfl : (l.map enc).flatten.length = l.length * k := by rw [P1 (fun c hc => by obtain ⟨x, _, rfl⟩ := mem_map.1 hc; exact hk x), length_map]
 apply Array.ext
 · simp [flatK, hfl]
 · intro t h1 h2; have ht : t < l.length * k := (by simpa [flatK] using h1); have hq : t / k < l.length := Nat.div_lt_of_lt_mul (by rw [Nat.mul_comm]; exact ht); have hr : t % k < (enc l[t / k]).length := by rw [hk]; exact Nat.mod_lt _ hp
   have := a1j (css := l.map enc) (sz := k) (fun c hc => by obtain ⟨x, _, rfl⟩ := mem_map.1 hc; exact hk x) (i := t / k) (c := enc l[t / k]) (by simp [hq]) (t % k) ((enc l[t / k])[t % k]) (getElem?_eq_getElem hr); rw [show t / k * k + t % k = t by rw [Nat.mul_comm]; exact Nat.div_add_mod t k] at this; have e2 := (List.getElem?_eq_some_iff.1 this).2; simp only [flatK, size_toArray, Array.getElem_map, Array.getElem_range, getElem_toArray]; rw [e2, show (l.toArray[t / k]! : α) = l[t / k] by rw [getElem!_pos l.toArray _ (by simpa using hq)]; simp]; exact getElem!_pos (enc l[t / k]) (t % k) hr
theorem c3Y (l : List (Str × Sl)) (hl : l.length < 1000000) : a4V prog 145 72 (l.map rw2) [.d (.clo 146 [])] ((Z7 l).map rw2) := by
 refine ⟨enters_of func145 (by kernel_rfl) rfl, fun w L og v vals hlok hgl hown hrc => ?_⟩; simp only [RCs] at hrc; obtain ⟨cv, us, rfl, hc1, rfl⟩ := hrc; simp only [RC] at hc1; obtain ⟨ccs, hcc, rfl⟩ := a0B hc1; simp only [A5] at hcc; subst hcc; simp only [flatten_nil]; obtain ⟨css0, sz0, g1, g2, g3, g4, g5⟩ := id hown; rcases g4.2 with ⟨hv, hn⟩ | ⟨g, cap, cur, hv, _⟩
 · have hl0 : l = [] := (by simpa using hn); subst hl0; subst hv; have h := AnyF.slices_SortFunc_none Tryz.layF none 0 (.func (.func 146) #[] #[]) w
   change Calls prog 145 _ _ _ at h
   refine h.mono ?_; rintro e w' ⟨rfl, rfl⟩; have hnil : Z7 [] = [] := Perm.eq_nil (a6q []).1; exact ⟨L, rfl, F1.refl _ _, hlok, fun _ _ _ _ => Iff.rfl, by rw [hnil]; exact hown⟩
 · subst hv; obtain ⟨css, h1, h2, h3, h4, h5⟩ := hown.holds; have hcss := b3L h1; subst hcss; have hK : HoldsK a3u 2 w g 0 l.toArray := by
     unfold HoldsK; rw [b5b a3u 2 l (fun _ => rfl) (by omega)]; exact h3
   have eg : ∀ args w, (callFunc 146 args).run prog w = .ok (.enter 146 args) w := enters_of func146 (by kernel_rfl) rfl; have hcmp : CmpLays prog 146 #[] a3u 2 a4F g 0 l.toArray.size w := fun m os dk _ x y => by
     have := c0M ⟨x.1.toArray⟩ ⟨y.1.toArray⟩ (.slice x.2.1 x.2.2.1 x.2.2.2) (.slice y.2.1 y.2.2.1 y.2.2.2) (sortWorldK a3u 2 w g 0 m dk os); simp only [Lib.toList_data] at this; exact this
   have h := AnyQ.slices_SortFunc_eq Tryz.layF 2 Tryz.isAgg72 Tryz.sizeOf72 a3u (fun _ => rfl) (fun x v hv => ?_) a4F c7o 146 #[] g 0 cap l.toArray w eg hcmp hK h4 (by simp; omega)
   · change Calls prog 145 _ _ _ at h
     simp only [size_toArray] at h; rw [length_map]; refine h.mono ?_; rintro e w' ⟨rfl, n, os, rfl⟩; have hp := (a6q l).1; have hlen : (Z7 l).length = l.length := hp.length_eq; have hog := (hown.blk (g := g) rfl).1; have hs := hown.sorted hlok (b5p w L (Z7 l)) (by simp [hlen]) (fun sz hsz c hc => by
       obtain ⟨s, _, rfl⟩ := mem_map.1 hc; rw [show (prog.info? (ety 72)).map (·.size) = some 2 from Tryz.sz_72] at hsz; simpa [a3u] using hsz) n os (F := ((Z7 l).map a3u).flatten.toArray) rfl
     rw [length_map] at hs; have e : I5 w g n ((Z7 l).map a3u).flatten.toArray os = sortWorldK a3u 2 w g 0 n (pdq (ltOf a4F) l.toArray 0 l.length (Lib.bitLen l.length) true true) os := by
       unfold I5 sortWorldK putRowK; rw [← b5b a3u 2 (Z7 l) (fun _ => rfl) (by omega)]; rfl
     rw [e] at hs; refine ⟨L, rfl, ?_, hs.2.2, fun _ _ _ _ => Iff.rfl, hs.1⟩; rw [hog]; exact hs.2.1
   · simp only [a3u, mem_cons, not_mem_nil, or_false] at hv; rcases hv with rfl | rfl <;> rfl
theorem c4M {w : World} {L : Nat → Nat → Prop} {og : Option Nat} {g cap : Nat} {l : List Str} (hown : E5 prog w L og true 9 (l.map .str) (.slice (some ⟨g, 0, none⟩) l.length cap)) (hlok : ∀ b q, L b q → b < w.heap.size) (l' : List Str) (hl : l'.length = l.length) (q : Nat) :
   E5 prog (putRow encStr (Sort.ahead w q) g 0 l'.toArray) L og true 9 (l'.map .str) (.slice (some ⟨g, 0, none⟩) l.length cap) ∧ F1 w (putRow encStr (Sort.ahead w q) g 0 l'.toArray) (F2 (some g)) ∧ ∀ b p, L b p → b < (putRow encStr (Sort.ahead w q) g 0 l'.toArray).heap.size := by
 have hown' : E5 prog w L og true 9 (l.map .str) (.slice (some ⟨g, 0, none⟩) (l.map D.str).length cap) := by rw [length_map]; exact hown
 have hs := hown'.sorted hlok (b0G w L l') (by simp [hl]) (fun sz hsz c hc => by
   obtain ⟨s, _, rfl⟩ := mem_map.1 hc; rw [show (prog.info? (ety 9)).map (·.size) = some 1 from Tryz.sz_9] at hsz; simpa using hsz) q #[] (F := (l'.map encStr).toArray) (by rw [a3U])
 rw [length_map] at hs; have e : I5 w g q (l'.map encStr).toArray #[] = putRow encStr (Sort.ahead w q) g 0 l'.toArray := by
   unfold I5; rw [grow_empty, a7n encStr]; simp
 rw [e] at hs; exact hs
theorem c2J {w : World} {L : Nat → Nat → Prop} {og : Option Nat} {l : List Str} {v : Value} (h : E5 prog w L og true 9 (l.map .str) v) :
   (v = .slice none 0 0 ∧ l = []) ∨ ∃ g cap, v = .slice (some ⟨g, 0, none⟩) l.length cap ∧ l.length ≤ cap ∧ cap ≤ maxLen ∧ Holds encStr w g 0 l.toArray ∧ g < w.heap.size ∧ og = some g := by
 obtain ⟨css0, sz0, g1, g2, g3, g4, g5⟩ := id h; rcases g4.2 with ⟨hv, hn⟩ | ⟨g, cap, cur, hv, hh, hnc, hcm, _⟩
 · exact .inl ⟨hv, by simpa using hn⟩
 · subst hv; obtain ⟨css, h1, h2, h3, h4, h5⟩ := h.holds; have hcss := a7W h1; subst hcss; rw [a3U] at h3; exact .inr ⟨g, cap, by rw [length_map], by simpa using hnc, hcm, b2n h3, h4, (h.blk (g := g) rfl).1⟩
theorem b9j (l : List Str) (hl : l.length < 1000000) : Ctr prog 144 [.own true 9 (l.map .str)] (.own true 9 ((compact l).map .str)) := by
 refine ⟨enters_of func144 (by kernel_rfl) rfl, fun w L og vals hlok hgl hog hrc => ?_⟩; simp only [RCs] at hrc; obtain ⟨v, us, rfl, hown, rfl⟩ := hrc; simp only [RC] at hown; rcases c2J hown with ⟨rfl, rfl⟩ | ⟨g, cap, rfl, hcap, hcm, hH, hg, hgo⟩
 · have h := AnyG.slices_Compact_string_empty Tryz.layC none 0 w
   change Calls prog 144 _ _ _ at h
   refine h.mono ?_; rintro e w' ⟨rfl, rfl⟩; exact ⟨_, L, og, rfl, F1.refl _ _, hlok, fun _ _ _ _ => Iff.rfl, fun g hg => ⟨(hog g hg).1, .inr hg⟩, hown⟩
 · have h := AnyG.slices_Compact_string Tryz.layC g 0 cap l w hH (by omega) hcap
   change Calls prog 144 _ _ _ at h
   refine h.mono ?_; rintro e w' ⟨rfl, q, rfl⟩; have hle := compact_length_le l; have hp := c4M hown hlok (compact l ++ replicate (l.length - (compact l).length) []) (by simp; omega) q; refine ⟨_, L, og, rfl, by rw [hgo]; exact hp.2.1, hp.2.2, fun _ _ _ _ => Iff.rfl, fun b hb => ?_, ?_⟩
   · refine ⟨Nat.lt_of_lt_of_le (hog b hb).1 hp.2.1.size, .inr hb⟩
   · simp only [RC]; have := hp.1.cut (hi := (compact l).length) (m := cap) (by simp) (by omega) (Nat.le_refl _); rw [← map_take, take_left] at this; exact this
end Go.Proofs.Tz
namespace Go.Proofs.Tz
open Go.Vw
theorem b9W (x : Str × Sl) (n : Str) : Ctr prog 141 [.d (rw2 x), .d (.ref (.str n))] (.d (.bool (decide (x.1 = n)))) := by
 refine fv (fun _ => false) func141 (by kernel_rfl) rfl rfl rfl rfl rfl ?_; simp -implicitDefEqProofs [rw2]
theorem c0x (x : Str × Sl) : Ctr prog 143 [.d (rw2 x)] (.d (.bool (decide (x.2.2.1 = 0)))) := by
 refine fv (fun _ => false) func143 (by kernel_rfl) rfl rfl rfl rfl rfl ?_; simp -implicitDefEqProofs [rw2]
abbrev Row := Str × Sl × List Str
def pr (r : Row) : Str × Sl := (r.1, r.2.1)
def nv (r : Row) : Att := (r.1, r.2.2)
def hd (r : Row) : Value := .slice r.2.1.1 r.2.1.2.1 r.2.1.2.2
def a1G (r : Row) : D := rw2 (pr r)
def hnd (r : Row) : AV := .hs (hd r) 9 (r.2.2.map .str)
theorem b0N {α β : Type} (f : α → β) (p : β → Bool) : ∀ (l : List α) (k : Nat), X2 p k (l.map f) = X2 (fun x => p (f x)) k l
 | [], _ => rfl
 | x :: l, k => by simp only [map_cons, X2, b0N f p l (k + 1)]
def a1q (acc : List Att) (a : Att) : List Att :=
 if X2 (fun x : Att => decide (x.1 = D9 a.1)) 0 acc = -1 then acc ++ [(D9 a.1, a.2)] else acc.modify (X2 (fun x : Att => decide (x.1 = D9 a.1)) 0 acc).toNat fun x => (x.1, x.2 ++ a.2)
def grp (l : List Att) : List Att := l.foldl a1q []
theorem c3X {l : List Att} {k : Nat} (h : k < l.length) : grp (l.take (k + 1)) = a1q (grp (l.take k)) l[k] := by
 rw [F6 h]; simp only [grp, foldl_append, foldl_cons, foldl_nil]
theorem b7B (l : List Att) : (grp l).length ≤ l.length := by
 have key : ∀ (l acc : List Att), (l.foldl a1q acc).length ≤ acc.length + l.length := by
   intro l
   induction l with
   | nil => intro acc; simp
   | cons a l ih =>
     intro acc; have := ih (a1q acc a); have h2 : (a1q acc a).length ≤ acc.length + 1 := by
       unfold a1q; split <;> simp
     simp only [foldl_cons, length_cons]; omega
 simpa [grp] using key l []
theorem c0O (a b : List Att) : I4 (a ++ b) = I4 a + I4 b := by simp [I4]
theorem a8v (f : Att → Att) (n : Nat) : ∀ (acc : List Att) (i : Nat), (∀ x, (f x).2.length = x.2.length + n) → i < acc.length → I4 (acc.modify i f) = I4 acc + n
 | [], i, _, h => by simp at h
 | x :: acc, 0, hf, _ => by simp [I4, modify_cons, hf]; omega
 | x :: acc, i + 1, hf, h => by
   have := a8v f n acc i hf (by simpa using h); simp only [I4, modify_succ_cons, map_cons, sum_cons] at this ⊢; omega
theorem b9z (acc : List Att) (a : Att) : I4 (a1q acc a) = I4 acc + a.2.length := by
 unfold a1q; split
 · rw [c0O]; simp [I4]
 · rename_i h
   obtain ⟨i, h1, h2, _⟩ := a6T _ acc 0 h; rw [h1]; exact a8v _ _ _ _ (fun x => by simp) (by simpa using h2)
theorem a8L (l : List Att) : I4 (grp l) = I4 l := by
 have key : ∀ (l acc : List Att), I4 (l.foldl a1q acc) = I4 acc + I4 l := by
   intro l
   induction l with
   | nil => intro acc; simp [I4]
   | cons a l ih =>
     intro acc; rw [foldl_cons, ih, b9z]; simp only [I4, map_cons, sum_cons]; omega
 have := key l []; simpa [grp, I4] using this
theorem a8F {l : List Att} {x : Att} (h : x ∈ l) : x.2.length ≤ I4 l := by
 induction l with
 | nil => simp at h
 | cons y l ih =>
   simp only [I4, map_cons, sum_cons] at ih ⊢; rcases mem_cons.1 h with rfl | h
   · omega
   · have := ih h; omega
theorem a6X {α : Type} (f : α → α) : ∀ (l : List α) (i : Nat) (x : α), l[i]? = some x → l.modify i f = l.set i (f x)
 | [], i, x, h => by simp at h
 | y :: l, 0, x, h => by
   simp only [getElem?_cons_zero, Option.some.injEq] at h; subst h; rfl
 | y :: l, i + 1, x, h => by
   simp only [getElem?_cons_succ] at h; simp [modify_succ_cons, a6X f l i x h]
theorem N0 (i d : Nat) (h : d < 1000000) : (1000000 + i = d) = False := by simp; omega
theorem L3 (i d : Nat) (h : d < 1000000) : (d = 1000000 + i) = False := by simp; omega
theorem c7i : a0R prog true 72 = some [.str [], .raw (.slice none 0 0)] := by kernel_rfl
def c5e (rs : List Row) : Prop := ∀ r ∈ rs, r.2.1.2.1 = r.2.2.length
def Z2 : Nat → Bool := fun i => i == 3 || i == 44 || i == 1000027 || i == 2000020 || i == 3000055 || i == 4000063 || i == 3000068
abbrev a7I := Row × Nat
def q1 (q : a7I) : D := a1G q.1
def d0p (qs : List a7I) (τ : St) : Prop := (qs.map (·.2)).Nodup ∧ ∀ q ∈ qs, τ (1000000 + q.2) = hnd q.1
def a2l (a : Att) : Att := (a.1, Go.Lib.compact (I7 a.2))
def a4f (a : Att) : Bool := !decide (a.2 = [])
def c7d (m : List (Str × Sl)) : Prop := ∀ i j (_ : i < j) (hj : j < m.length), Op.bytesLess m[j].1 (m[i]'(by omega)).1 = false
theorem c2a {α β : Type} (f : α → β) {m m' : List β} (h : m.Perm m') : ∀ l : List α, l.map f = m' → ∃ l' : List α, l'.Perm l ∧ l'.map f = m := by
 induction h with
 | nil => intro l hl; exact ⟨l, .refl _, hl⟩
 | cons x p ih =>
   intro l hl; cases l with
   | nil => simp at hl
   | cons a t =>
     simp only [map_cons, List.cons.injEq] at hl; obtain ⟨t', h1, h2⟩ := ih t hl.2; exact ⟨a :: t', h1.cons a, by simp [hl.1, h2]⟩
 | swap x y l0 =>
   intro l hl
   match l, hl with
   | a :: b :: t, hl =>
     simp only [map_cons, List.cons.injEq] at hl; exact ⟨b :: a :: t, .swap _ _ _, by simp [hl.1, hl.2.1, hl.2.2]⟩
 | trans h1 h2 ih1 ih2 =>
   intro l hl; obtain ⟨l2, p2, e2⟩ := ih2 l hl; obtain ⟨l1, p1, e1⟩ := ih1 l2 e2; exact ⟨l1, p1.trans p2, e1⟩
theorem b7O {rs : List Row} {q : a7I} (h : q ∈ rs.zipIdx) : ∃ hi : q.2 < rs.length, rs[q.2] = q.1 := by
 obtain ⟨r, i⟩ := q; have := mem_zipIdx_iff_getElem?.1 h; exact ⟨(List.getElem?_eq_some_iff.1 this).1, (List.getElem?_eq_some_iff.1 this).2⟩
theorem b8J (l : List Att) (hl : a5N l) : H5 prog 100 [.d (H9 l)] [] (fun r hs => ∃ rs : List Row, r = .own true 72 (rs.map a1G) ∧ hs = rs.map hnd ∧ (rs.map nv).Perm (((grp l).filter a4f).map a2l) ∧ ∀ i j (_ : i < j) (hj : j < rs.length), Op.bytesLess rs[j].1 (rs[i]'(by omega)).1 = false) := by
 refine a1P Z2 (by kernel_rfl) func100 (by kernel_rfl) rfl rfl (nbl rfl) (by kernel_rfl) rfl ?_; obtain ⟨⟨hl1, hl2⟩, hl3⟩ := hl; simp -implicitDefEqProofs [Z2, A7, H9]; refine G7 l.length (fun k τ => τ 9 = .d (.sl (l.map att)) ∧ τ 10 = .d (.int .i64 l.length) ∧ τ 11 = .d (.int .i64 k) ∧ ∃ rs : List Row, τ 3 = .own true 72 (rs.map a1G) ∧ (∀ i (h : i < rs.length), τ (1000000 + i) = hnd rs[i]) ∧ (∀ i, rs.length ≤ i → τ (1000000 + i) = .undef) ∧ rs.map nv = grp (l.take k) ∧ c5e rs) ?_ ?_
 · refine ⟨by simp, by simp, by simp, [], by simp, by simp, fun i _ => ?_, by simp [grp], by simp [c5e]⟩; simp [A7, N0]
 rintro k τ hk ⟨h9, h10, h11, rs, h3, hH, hU, hg, hlen⟩; by_cases hlt : k < l.length
 · simp -implicitDefEqProofs [Z2, h9, h10, h11, h3, hlt, att, C7]; refine A3 (a2z _ (hl2 _ (gmm hlt)).1) ?_; simp -implicitDefEqProofs [Z2, h9, h10, h11, h3, hlt, att, C7]; have hrk : rs.length ≤ k := by
     have := b7B (l.take k); rw [← hg] at this; simpa [Nat.min_eq_left (Nat.le_of_lt hlt)] using this
   have htot := b1R l k hlt; rw [← a8L (l.take k), ← hg] at htot; have hmr : rs.map a1G = (rs.map pr).map rw2 := (by simp [a1G]); rw [hmr]; refine c4Q (b4j 141 [.ref (.str (D9 l[k].1))] rfl (fun x => decide (x.1 = D9 l[k].1)) (rs.map pr) (by simp; omega) (fun a _ => b9W a _)) rfl ?_; rw [← hmr]; have hidx : X2 (fun x : Str × Sl => decide (x.1 = D9 l[k].1)) 0 (rs.map pr) = X2 (fun x : Att => decide (x.1 = D9 l[k].1)) 0 (grp (l.take k)) := by
     rw [← hg, b0N, b0N]; rfl
   rw [hidx]; have hnew := c3X (l := l) hlt; by_cases hn : X2 (fun x : Att => decide (x.1 = D9 l[k].1)) 0 (grp (l.take k)) = -1
   · simp -implicitDefEqProofs [Z2, h9, h10, h11, h3, hlt, att, C7, hn, c7i]; refine ⟨by omega, by omega, c9M (1000000 + rs.length) (by simp [N0, hU]) (by simp) (by simp; omega) (by simp; omega) (fun A c => ?_)⟩; simp -implicitDefEqProofs [Z2, h9, h10, h11, h3, hlt, att, C7, hn, c7i, N0, L3]; refine ⟨by omega, D5 hlt ⟨by simp [h9, N0, L3], by simp [h10, N0, L3], by simp [N0, L3], rs ++ [(D9 l[k].1, (A, l[k].2.length, c), l[k].2)], ?_, fun i hi => ?_, fun i hi => ?_, ?_, ?_⟩⟩
     · simp [N0, L3, a1G, rw2, pr, set_append]
     · simp only [length_append, length_cons, length_nil] at hi; by_cases hi2 : i < rs.length
       · have hne : ¬ (i = rs.length) := (by omega); simp [N0, L3, hH i hi2, hnd, hne, getElem_append_left hi2]
       · have hie : i = rs.length := (by omega); subst hie; simp [N0, L3, hnd, hd]
     · simp only [length_append, length_cons, length_nil] at hi; have hne : ¬ (i = rs.length) := (by omega); simp [N0, L3, hU i (by omega), hne]
     · rw [hnew, a1q, if_pos hn, map_append, hg]; rfl
     · intro r hr; rcases mem_append.1 hr with hr | hr
       · exact hlen r hr
       · rw [mem_singleton.1 hr]
   · obtain ⟨i, hi1, hi2, hi3, hi4⟩ := a6T (fun x : Att => decide (x.1 = D9 l[k].1)) (grp (l.take k)) 0 hn; simp only [Nat.zero_add] at hi1; have hir : i < rs.length := by rw [← hg] at hi2; simpa using hi2
     have hi0 : ¬ (i : Int) < 0 := (by omega); have hvl : rs[i].2.2.length + l[k].2.length ≤ 1000000 := by
       have := a8F (l := rs.map nv) (x := nv rs[i]) (mem_map.2 ⟨_, gmm hir, rfl⟩); simp only [nv] at this; omega
     rw [hi1]; simp -implicitDefEqProofs [Z2, h9, h10, h11, h3, hlt, att, C7, hi0, hir, a1G, rw2, pr]; refine c6S (1000000 + i) (by simp [N0, hH i hir, hnd, hd]; rfl) (by simp) (by simp; omega) (by simp; omega) (fun A c => ?_); simp -implicitDefEqProofs [Z2, h9, h10, h11, h3, hlt, att, C7, hi0, hir, a1G, rw2, pr, N0, L3]; have hset : (rs.set i (rs[i].1, (A, rs[i].2.2.length + l[k].2.length, c), rs[i].2.2 ++ l[k].2)).length = rs.length := (by simp); refine ⟨by omega, D5 hlt ⟨by simp [h9, N0, L3], by simp [h10, N0, L3], by simp [N0, L3], rs.set i (rs[i].1, (A, rs[i].2.2.length + l[k].2.length, c), rs[i].2.2 ++ l[k].2), ?_, fun j hj => ?_, fun j hj => ?_, ?_, ?_⟩⟩
     · simp [N0, L3, a1G, rw2, pr, map_set]
     · rw [hset] at hj; by_cases hji : j = i
       · subst hji; simp [N0, L3, hnd, hd]
       · have hij : ¬ i = j := fun e => hji e.symm
         simp [N0, L3, hH j hj, hnd, hji, hij, getElem_set_ne]
     · rw [hset] at hj; have hji : ¬ j = i := (by omega); simp [N0, L3, hU j hj, hji]
     · rw [hnew, a1q, if_neg hn, hi1, map_set, ← hg]; rw [Int.toNat_natCast]; exact (a6X (fun x : Att => (x.1, x.2 ++ l[k].2)) _ _ (nv rs[i]) (by rw [getElem?_map, getElem?_eq_getElem hir]; rfl)).symm
     · intro r hr; rcases mem_or_eq_of_mem_set hr with hr | hr
       · exact hlen r hr
       · rw [hr]; simp
 · have hkl : k = l.length := (by omega); rw [hkl, take_length] at hg; have hrk : rs.length ≤ l.length := by
     have := b7B l; rw [← hg] at this; simpa using this
   have hmr : rs.map a1G = (rs.map pr).map rw2 := (by simp [a1G]); rw [hmr] at h3; have hf := b8X 143 [] rfl (fun x => decide (x.2.2.1 = 0)) (rs.map pr) (by simp; omega) (fun a _ => c0x a); simp -implicitDefEqProofs [Z2, h9, h10, h11, h3, hlt, att, C7]; simp only [rw2, map_map] at hf; refine A3 hf ?_; obtain ⟨q0, hq0⟩ : ∃ q0 : List a7I, q0 = rs.zipIdx.filter fun q => !decide (q.1.2.1.2.1 = 0) := ⟨_, rfl⟩
   have e1 : ((rs.map pr).filter fun x => !decide (x.2.2.1 = 0)).map rw2 = q0.map q1 := by
     rw [hq0]; have : rs = rs.zipIdx.map (·.1) := by simp
     conv => lhs; rw [this]
     rw [map_map, filter_map, map_map]; rfl
   have e2 : q0.map (fun q => nv q.1) = (grp l).filter a4f := by
     rw [← hg, hq0]; have : rs = rs.zipIdx.map (·.1) := by simp
     conv => rhs; rw [this]
     rw [map_map, filter_map]; congr 1
     refine filter_congr (fun q hq => ?_); obtain ⟨hi, hr⟩ := b7O hq; have := hlen q.1 (hr ▸ gmm hi); simp [a4f, nv, this, length_eq_zero_iff]; exact decide_eq_decide.2 Iff.rfl
   have e3 : (q0.map (·.2)).Nodup := by
     rw [hq0]; have h1 : (rs.zipIdx.map (·.2)).Nodup := by rw [zipIdx_map_snd]; exact nodup_range'
     exact h1.sublist (filter_sublist.map _)
   have e4 : ∀ q ∈ q0, τ (1000000 + q.2) = hnd q.1 := by
     intro q hq; rw [hq0] at hq; obtain ⟨hi, hr⟩ := b7O (mem_filter.1 hq).1; rw [hH _ hi, hr]
   have e5 : q0.length ≤ rs.length := by rw [hq0]; exact Nat.le_trans (length_filter_le _ _) (by simp)
   rw [e1]; simp -implicitDefEqProofs [Z2, h9, h10, h11, h3, hlt, att, C7]; have e6 : ∀ a ∈ q0.map (fun q => nv q.1), a.2.length < 500000 := by
     intro a ha; rw [e2] at ha; have := a8F (mem_filter.1 ha).1; rw [a8L] at this; omega
   generalize hn0 : q0.map (fun q => nv q.1) = n0 at *; have hn0l : n0.length = q0.length := by rw [← hn0]; simp
   refine G7 q0.length (fun k τ => τ 46 = .d (.int .i64 q0.length) ∧ τ 47 = .d (.int .i64 k) ∧ ∃ qs : List a7I, τ 3 = .own true 72 (qs.map q1) ∧ d0p qs τ ∧ qs.map (fun q => nv q.1) = (n0.take k).map a2l ++ n0.drop k) ?_ ?_
   · refine ⟨by simp, by simp, q0, by simp, ⟨e3, fun q hq => ?_⟩, by simp [hn0]⟩; simp [N0, L3, e4 q hq, hnd]
   clear h9 h10 h11 h3 hH hU hk hlt hf e4 τ hkl; rintro j τ hj ⟨h46, h47, qs, h3, ⟨hnd1, hnd2⟩, hqs⟩; have hql : qs.length = q0.length := by
     have := congrArg length hqs; simp at this; omega
   by_cases hlt : j < q0.length
   · have hjq : j < qs.length := (by omega); have hjn : j < n0.length := (by omega); have hvj : nv qs[j].1 = n0[j] := by
       have h1 : (qs.map (fun q => nv q.1))[j]? = some (nv qs[j].1) := by simp [hjq]
       rw [hqs, getElem?_append_right (by simp; omega)] at h1; simp [Nat.min_eq_left (Nat.le_of_lt hjn), hjn] at h1; exact h1.symm
     have hvl : qs[j].1.2.2.length < 500000 := by
       have := e6 n0[j] (gmm hjn); rw [← hvj] at this; exact this
     have hnm := hnd2 qs[j] (gmm hjq); simp -implicitDefEqProofs [Z2, h46, h47, h3, hlt, hjq, q1, a1G, rw2, pr]; refine d3C (1000000 + qs[j].2) (e := 9) (l := qs[j].1.2.2.map .str) (by simp [N0, L3, hnm, hnd, hd]) (b2S qs[j].1.2.2 (by omega)) ?_; simp -implicitDefEqProofs [Z2, h46, h47, h3, hlt, hjq, q1, a1G, rw2, pr, N0, L3]; have hsl : (I7 qs[j].1.2.2).length = qs[j].1.2.2.length := (by simp [I7]); refine c9K (1000000 + qs[j].2) (e := 9) (l := (I7 qs[j].1.2.2).map .str) (by simp [N0, L3]) (b9j (I7 qs[j].1.2.2) (by omega)) (fun A c => ?_); simp -implicitDefEqProofs [Z2, h46, h47, h3, hlt, hjq, q1, a1G, rw2, pr, N0, L3]; refine ⟨by omega, D5 hlt ⟨by simp [h46, N0, L3], by simp [N0, L3], qs.set j ((qs[j].1.1, (A, (Go.Lib.compact (I7 qs[j].1.2.2)).length, c), Go.Lib.compact (I7 qs[j].1.2.2)), qs[j].2), ?_, ⟨?_, fun q hq => ?_⟩, ?_⟩⟩
     · simp [N0, L3, q1, a1G, rw2, pr, map_set]
     · rw [map_set]; have := set_getElem_self (i := j) (show j < (qs.map (·.2)).length by simpa using hjq); rw [getElem_map] at this; rw [this]; exact hnd1
     · obtain ⟨i, hi, rfl⟩ := mem_iff_getElem.1 hq; have hi' : i < qs.length := (by simpa using hi); by_cases hij : j = i
       · subst hij; simp [N0, L3, hnd, hd]
       · rw [getElem_set_ne hij]; have hne : ¬ qs[i].2 = qs[j].2 := fun e => by
           have h1 := pairwise_iff_getElem.1 hnd1; rcases Nat.lt_or_gt_of_ne hij with h2 | h2
           · exact h1 j i (by simpa using hjq) (by simpa using hi') h2 (by simpa using e.symm)
           · exact h1 i j (by simpa using hi') (by simpa using hjq) h2 (by simpa using e)
         simp [N0, L3, hnd2 qs[i] (gmm hi'), hne, hnd]
     · have hnn : nv ((qs[j].1.1, (A, (Go.Lib.compact (I7 qs[j].1.2.2)).length, c), Go.Lib.compact (I7 qs[j].1.2.2)) : Row) = a2l n0[j] := by
         rw [← hvj]; rfl
       have hl1 : ((n0.take j).map a2l).length = j := by simp; omega
       rw [map_set, hqs, set_append_right _ _ (by omega), hl1, Nat.sub_self, drop_eq_getElem_cons hjn, set_cons_zero, hnn, ← map_take, F6 hjn]; simp only [map_append, map_cons, map_nil, append_assoc, singleton_append]
   · simp -implicitDefEqProofs [Z2, h46, h47, h3, hlt]; have hjl : j = n0.length := (by omega); subst hjl; rw [take_length, drop_length, append_nil] at hqs; have hmq : qs.map q1 = (qs.map fun q => pr q.1).map rw2 := by rw [map_map]; rfl
     rw [hmq]; refine b6e (c3Y (qs.map fun q => pr q.1) (by simp; omega)) ?_; obtain ⟨p1, p2⟩ := a6q (qs.map fun q => pr q.1)
     replace p2 : c7d (Z7 (qs.map fun q => pr q.1)) := p2
     generalize Z7 (qs.map fun q => pr q.1) = ms at p1 p2 ⊢; obtain ⟨qs', p3, rfl⟩ := c2a (fun q : a7I => pr q.1) p1 qs rfl; have hlen' : qs'.length = qs.length := p3.length_eq; have hT : ∀ (qs : List a7I) (τ' : St), (∀ q ∈ qs, τ' (1000000 + q.2) = hnd q.1) → (qs.map fun q => 1000000 + q.2).map τ' = (qs.map (·.1)).map hnd := by
       intro qs τ' h; rw [map_map, map_map]; exact map_congr_left h
     have hrow : (qs'.map fun q => pr q.1).map rw2 = qs'.map q1 := by rw [map_map]; rfl
     simp -implicitDefEqProofs [Z2, h46, h47, h3, hlt]; have hK : ∀ q ∈ qs', τ (1000000 + q.2) = hnd q.1 := fun q hq => hnd2 q (p3.mem_iff.1 hq)
     refine ⟨.own true 72 (qs'.map q1), qs'.map (fun q => 1000000 + q.2), ?_, fun k hk => ?_, ?_, qs'.map (·.1), ?_, ?_, ?_, ?_⟩
     · have h1 : (qs'.map (·.2)).Nodup := (p3.map _).nodup_iff.2 hnd1; have h2 := Pairwise.map (R := fun a b : Nat => a ≠ b) (S := fun a b : Nat => a ≠ b) (fun x => 1000000 + x) (fun a b h => by omega) h1; rw [map_map] at h2; exact h2
     · obtain ⟨q, hq, rfl⟩ := mem_map.1 hk; simp [N0, L3, hK q hq, hnd, isH]
     · simp [a1Z, q1, a1G]
     · simp [q1]
     · rw [map_map, map_map]; refine map_congr_left fun q hq => ?_
       simp [N0, L3, hK q hq, hnd]
     · rw [map_map]; have h1 := p3.map (fun q : a7I => nv q.1); rw [hqs, e2] at h1; exact h1
     · intro i j hij hj; have := p2 i j hij (by simpa using hj); simpa [pr] using this
end Go.Proofs.Tz
namespace Go.Proofs.Tz
open Go.Vw Go.Lib
theorem bl (x y : Str) : Op.bytesLess x y = decide (x < y) := bytesLess_eq x y
theorem c7W {x y : Str} : Op.bytesLess x y = true ↔ x < y := by rw [bl]; simp
theorem b3b {x y : Str} : Op.bytesLess x y = false ↔ ¬ x < y := by rw [bl]; simp
theorem a5l (x : Str) : ¬ x < x := List.lt_irrefl x
theorem a1R {x y z : Str} (h1 : x < y) (h2 : y < z) : x < z := List.lt_trans h1 h2
theorem a2T {x y : Str} (h1 : ¬ x < y) (h2 : ¬ y < x) : x = y := List.le_antisymm (List.not_lt.1 h2) (List.not_lt.1 h1)
def SS (l : List Str) : Prop := l.Pairwise (· < ·)
theorem SS.nodup {l : List Str} (h : SS l) : l.Nodup := Pairwise.imp (R := fun a b : Str => a < b) (S := fun a b : Str => a ≠ b) (fun hab e => by subst e; exact a5l _ hab) h
theorem a7F {a b : List Str} (ha : SS a) (hb : SS b) (h : ∀ x, x ∈ a ↔ x ∈ b) : a = b := by
 have hp : a.Perm b := (perm_ext_iff_of_nodup ha.nodup hb.nodup).2 h; exact hp.eq_of_pairwise (fun x y _ _ h1 h2 => absurd (a1R h1 h2) (a5l x)) ha hb
def a4E (s : Str) : List Str → List Str
 | [] => [s]
 | x :: l => if x < s then x :: a4E s l else if x = s then x :: l else s :: x :: l
theorem b0f (s : Str) : ∀ (l out : List Str), (∀ x ∈ l, s < x) → l.foldl (O9 s) (true, out) = (true, out ++ l)
 | [], out, _ => by simp
 | x :: l, out, h => by
   have hx := h x (by simp); have hne : ¬ x = s := fun e => a5l s (e ▸ hx)
   have : O9 s (true, out) x = (true, out ++ [x]) := (by simp [O9, hne]); rw [foldl_cons, this, b0f s l _ (fun y hy => h y (by simp [hy]))]; simp
theorem c2n (s : Str) : ∀ (l out : List Str), SS l → (l.foldl (O9 s) (false, out)).2 ++ (if (l.foldl (O9 s) (false, out)).1 then [] else [s]) = out ++ a4E s l
 | [], out, _ => by simp [a4E]
 | x :: l, out, h => by
   have hp := pairwise_cons.1 h; rw [foldl_cons, a4E]; by_cases hx : x < s
   · have hne : ¬ x = s := fun e => a5l s (e ▸ hx)
     have : O9 s (false, out) x = (false, out ++ [x]) := (by simp [O9, c7W.2 hx, hne]); rw [this, c2n s l _ hp.2, if_pos hx]; simp
   · rw [if_neg hx]; by_cases he : x = s
     · subst he; have : O9 x (false, out) x = (true, out ++ [x]) := (by simp [O9, b3b.2 hx]); rw [this, b0f x l _ hp.1, if_pos rfl]; simp
     · have hs : s < x := Classical.byContradiction fun h2 => he (a2T hx h2)
       have : O9 s (false, out) x = (true, out ++ [s] ++ [x]) := (by simp [O9, b3b.2 hx, he]); rw [this, b0f s l _ (fun y hy => a1R hs (hp.1 y hy)), if_neg he]; simp
theorem c0N {l : List Str} (h : SS l) (s : Str) : ins l s = a4E s l := by
 have := c2n s l [] h; rw [nil_append] at this; exact this
theorem b0C (s : Str) : ∀ (l : List Str) (x : Str), x ∈ a4E s l ↔ x = s ∨ x ∈ l
 | [], x => by simp [a4E]
 | y :: l, x => by
   rw [a4E]; split
   · simp only [mem_cons, b0C s l x]; constructor
     · rintro (h | h | h) <;> simp [h]
     · rintro (h | h | h) <;> simp [h]
   · split
     · rename_i h; subst h; simp
     · simp
theorem b8c (s : Str) : ∀ (l : List Str), SS l → SS (a4E s l)
 | [], _ => by simp [a4E, SS]
 | y :: l, h => by
   have hp := pairwise_cons.1 h; rw [a4E]; split
   · rename_i hy
     refine pairwise_cons.2 ⟨fun z hz => ?_, b8c s l hp.2⟩; rcases (b0C s l z).1 hz with rfl | hz
     · exact hy
     · exact hp.1 z hz
   · rename_i hy
     split
     · exact h
     · rename_i he
       have hs : s < y := Classical.byContradiction fun h2 => he (a2T hy h2)
       refine pairwise_cons.2 ⟨fun z hz => ?_, h⟩; rcases mem_cons.1 hz with rfl | hz
       · exact hs
       · exact a1R hs (hp.1 z hz)
theorem b7J {l : List Str} (h : SS l) (s x : Str) : x ∈ ins l s ↔ x = s ∨ x ∈ l := by rw [c0N h]; exact b0C s l x
theorem c2r {l : List Str} (h : SS l) (s : Str) : SS (ins l s) := by rw [c0N h]; exact b8c s l h
theorem a9D : ∀ (vs l : List Str), SS l → SS (vs.foldl ins l) ∧ ∀ x, x ∈ vs.foldl ins l ↔ x ∈ l ∨ x ∈ vs
 | [], l, h => ⟨h, fun x => by simp⟩
 | v :: vs, l, h => by
   have := a9D vs (ins l v) (c2r h v); refine ⟨this.1, fun x => ?_⟩; rw [foldl_cons, this.2, b7J h]; simp only [mem_cons]; constructor
   · rintro ((h | h) | h) <;> simp [h]
   · rintro (h | h | h) <;> simp [h]
theorem a1i : ∀ (l : List Att) (ns : List Str), SS ns → SS (l.foldl Y8 ns) ∧ ∀ x, x ∈ l.foldl Y8 ns ↔ x ∈ ns ∨ ∃ a ∈ l, a.2 ≠ [] ∧ D9 a.1 = x
 | [], ns, h => ⟨h, fun x => by simp⟩
 | a :: l, ns, h => by
   rw [foldl_cons]; by_cases ha : a.2 = []
   · rw [Y8, if_pos ha]; have := a1i l ns h; refine ⟨this.1, fun x => ?_⟩; rw [this.2]; simp [ha]
   · rw [Y8, if_neg ha]; have := a1i l (ins ns (D9 a.1)) (c2r h _); refine ⟨this.1, fun x => ?_⟩; rw [this.2, b7J h]; simp only [mem_cons, exists_eq_or_imp, ne_eq, ha, not_false_eq_true, true_and]; constructor
     · rintro ((h | h) | h)
       · exact .inr (.inl h.symm)
       · exact .inl h
       · exact .inr (.inr h)
     · rintro (h | h | h)
       · exact .inl (.inr h)
       · exact .inl (.inl h.symm)
       · exact .inr h
theorem a0P (n : Str) : ∀ (l : List Att) (vs : List Str), SS vs → SS (l.foldl (a0V n) vs) ∧ ∀ x, x ∈ l.foldl (a0V n) vs ↔ x ∈ vs ∨ ∃ a ∈ l, D9 a.1 = n ∧ x ∈ a.2
 | [], vs, h => ⟨h, fun x => by simp⟩
 | a :: l, vs, h => by
   rw [foldl_cons]; by_cases ha : D9 a.1 = n
   · rw [a0V, if_pos ha]; have h1 := a9D a.2 vs h; have := a0P n l _ h1.1; refine ⟨this.1, fun x => ?_⟩; rw [this.2, h1.2]; simp only [mem_cons, exists_eq_or_imp, ha, true_and]; constructor
     · rintro ((h | h) | h) <;> simp [h]
     · rintro (h | h | h) <;> simp [h]
   · rw [a0V, if_neg ha]; have := a0P n l vs h; refine ⟨this.1, fun x => ?_⟩; rw [this.2]; simp [ha]
theorem a8u (l : List Str) : (I7 l).Pairwise fun x y => ¬ y < x := by
 have h := pairwise_mergeSort (le := fun x y : Str => decide (x ≤ y)) (fun a b c h1 h2 => by
   simp only [decide_eq_true_eq] at *; exact List.le_trans h1 h2) (fun a b => by
   simp only [Bool.or_eq_true, decide_eq_true_eq]; exact List.le_total a b) l
 exact h.imp fun h => by simpa using h
theorem b4s (l : List Str) (x : Str) : x ∈ I7 l ↔ x ∈ l := by simp [I7]
theorem a8U (zs : List Str) (h : zs.Pairwise fun x y => ¬ y < x) : ∀ m, m ≤ zs.length → SS (compactUpTo zs.toArray m) ∧ ∀ x, x ∈ compactUpTo zs.toArray m ↔ x ∈ zs.take m
 | 0, _ => by simp [compactUpTo, SS]
 | m + 1, hm => by
   obtain ⟨h1, h2⟩ := a8U zs h m (by omega); have hlt : m < zs.length := (by omega); have hg : zs.toArray[m]! = zs[m] := by rw [getElem!_pos _ m (by simpa using hlt)]; simp
   have asc : ∀ i (hi : i < m), ¬ zs[m] < zs[i]'(by omega) := fun i hi => pairwise_iff_getElem.1 h i m (by omega) hlt hi
   rw [compactUpTo_succ, hg, F6 hlt]; by_cases hk : keeps zs.toArray m = true
   · rw [if_pos hk]; refine ⟨pairwise_append.2 ⟨h1, by simp, fun x hx y hy => ?_⟩, fun x => by rw [mem_append, mem_append, h2 x]⟩; rw [mem_singleton.1 hy]; obtain ⟨i, hi, rfl⟩ := mem_iff_getElem.1 ((h2 x).1 hx); have him : i < m := by simp at hi; omega
     simp only [getElem_take]; have hm0 : m ≠ 0 := (by omega); have hg1 : zs.toArray[m - 1]! = zs[m - 1] := by rw [getElem!_pos _ (m - 1) (by simp; omega)]; simp
     have hne : zs[m] ≠ zs[m - 1] := (by simpa [keeps, hm0, hg, hg1] using hk); have hlt2 : zs[m - 1] < zs[m] := Classical.byContradiction fun hc => hne (a2T (asc (m - 1) (by omega)) hc)
     by_cases hc : zs[i] < zs[m - 1]
     · exact a1R hc hlt2
     · by_cases hie : i = m - 1
       · subst hie; exact hlt2
       · have := pairwise_iff_getElem.1 h i (m - 1) (by omega) (by omega) (by omega); rw [a2T hc this]; exact hlt2
   · rw [if_neg hk, append_nil]; refine ⟨h1, fun x => ?_⟩; rw [h2 x]; have hk' : keeps zs.toArray m = false := (by simpa using hk); have hm0 : m ≠ 0 := fun e => by subst e; simp [keeps] at hk'
     have hg1 : zs.toArray[m - 1]! = zs[m - 1] := by rw [getElem!_pos _ (m - 1) (by simp; omega)]; simp
     have he : zs[m] = zs[m - 1] := (by simpa [keeps, hm0, hg, hg1] using hk'); have hin : zs[m] ∈ zs.take m := by
       rw [he]; exact mem_iff_getElem.2 ⟨m - 1, by simp; omega, by simp⟩
     simp only [mem_append, mem_singleton]; constructor
     · intro hx; exact .inl hx
     · rintro (hx | rfl)
       · exact hx
       · exact hin
theorem d0z (vs : List Str) : SS (compact (I7 vs)) ∧ ∀ x, x ∈ compact (I7 vs) ↔ x ∈ vs := by
 have h := a8U (I7 vs) (a8u vs) (I7 vs).length (Nat.le_refl _); refine ⟨h.1, fun x => ?_⟩; rw [← b4s vs x]; have := h.2 x; rw [take_length] at this; exact this
theorem b7Y {α : Type} (p : α → Bool) : ∀ (l : List α) (k : Nat), X2 p k l ≠ -1 → ∃ i : Nat, X2 p k l = ((k + i : Nat) : Int) ∧ ∃ h : i < l.length, p l[i] = true
 | [], k, h => absurd rfl h
 | x :: l, k, h => by
   rw [X2] at h ⊢; by_cases hx : p x = true
   · rw [if_pos hx]; exact ⟨0, by simp, by simp, hx⟩
   · rw [if_neg hx] at h ⊢; obtain ⟨i, h1, h2, h3⟩ := b7Y p l (k + 1) h; exact ⟨i + 1, by rw [h1]; omega, by simpa using h2, by simpa using h3⟩
def Has (l : List Att) (n v : Str) : Prop := ∃ x ∈ l, x.1 = n ∧ v ∈ x.2
theorem c2v (acc : List Att) (a : Att) (hn : (acc.map (·.1)).Nodup) : ((a1q acc a).map (·.1)).Nodup ∧ ∀ n v, Has (a1q acc a) n v ↔ Has acc n v ∨ (D9 a.1 = n ∧ v ∈ a.2) := by
 unfold a1q; split
 · rename_i h
   have hf := b0u _ acc 0 h; have hno : ∀ x ∈ acc, ¬ x.1 = D9 a.1 := fun x hx => by
     have := filter_eq_self.1 hf x hx; simpa using this
   refine ⟨?_, fun n v => ?_⟩
   · rw [map_append, nodup_append]; refine ⟨hn, by simp, ?_⟩; intro x hx y hy e; simp at hy; obtain ⟨z, hz, rfl⟩ := mem_map.1 hx; exact hno z hz (e.trans hy)
   · simp only [Has, mem_append, mem_singleton]; constructor
     · rintro ⟨x, hx | rfl, h1, h2⟩
       · exact .inl ⟨x, hx, h1, h2⟩
       · exact .inr ⟨h1, h2⟩
     · rintro (⟨x, hx, h1, h2⟩ | ⟨h1, h2⟩)
       · exact ⟨x, .inl hx, h1, h2⟩
       · exact ⟨_, .inr rfl, h1, h2⟩
 · rename_i h
   obtain ⟨i, h1, hi, h3⟩ := b7Y _ acc 0 h; simp only [Nat.zero_add] at h1; simp only [decide_eq_true_eq] at h3; rw [h1, Int.toNat_natCast, a6X (fun x : Att => (x.1, x.2 ++ a.2)) acc i acc[i] (getElem?_eq_getElem hi)]; refine ⟨?_, fun n v => ?_⟩
   · rw [map_set]; have := set_getElem_self (i := i) (show i < (acc.map (·.1)).length by simpa using hi); rw [getElem_map] at this; rw [this]; exact hn
   · simp only [Has]; constructor
     · rintro ⟨x, hx, e1, e2⟩; obtain ⟨j, hj, rfl⟩ := mem_iff_getElem.1 hx; have hj' : j < acc.length := (by simpa using hj); by_cases hij : i = j
       · subst hij; rw [getElem_set_self] at e1 e2; simp only [mem_append] at e1 e2; rcases e2 with e2 | e2
         · exact .inl ⟨_, gmm hi, e1, e2⟩
         · exact .inr ⟨h3.symm.trans e1, e2⟩
       · rw [getElem_set_ne hij] at e1 e2; exact .inl ⟨_, gmm hj', e1, e2⟩
     · rintro (⟨x, hx, e1, e2⟩ | ⟨e1, e2⟩)
       · obtain ⟨j, hj, rfl⟩ := mem_iff_getElem.1 hx; by_cases hij : i = j
         · subst hij; refine ⟨_, mem_iff_getElem.2 ⟨i, by simpa using hi, getElem_set_self _⟩, e1, by simp [e2]⟩
         · exact ⟨_, mem_iff_getElem.2 ⟨j, by simpa using hj, getElem_set_ne hij _⟩, e1, e2⟩
       · exact ⟨_, mem_iff_getElem.2 ⟨i, by simpa using hi, getElem_set_self _⟩, h3.trans e1, by simp [e2]⟩
theorem c3G (l : List Att) : ((grp l).map (·.1)).Nodup ∧ ∀ n v, Has (grp l) n v ↔ ∃ a ∈ l, D9 a.1 = n ∧ v ∈ a.2 := by
 have key : ∀ (l acc : List Att), (acc.map (·.1)).Nodup → ((l.foldl a1q acc).map (·.1)).Nodup ∧ ∀ n v, Has (l.foldl a1q acc) n v ↔ Has acc n v ∨ ∃ a ∈ l, D9 a.1 = n ∧ v ∈ a.2 := by
   intro l
   induction l with
   | nil => intro acc h; exact ⟨h, fun n v => by simp⟩
   | cons a l ih =>
     intro acc h; have h1 := c2v acc a h; have h2 := ih _ h1.1; refine ⟨h2.1, fun n v => ?_⟩; rw [foldl_cons, h2.2, h1.2]; simp only [mem_cons, exists_eq_or_imp, or_assoc]
 have := key l [] (by simp); exact ⟨this.1, fun n v => by rw [show grp l = l.foldl a1q [] from rfl, this.2]; simp [Has]⟩
theorem b3K (l out : List Att) (hp : out.Perm (((grp l).filter a4f).map a2l)) (hs : ∀ i j (_ : i < j) (hj : j < out.length), Op.bytesLess out[j].1 (out[i]'(by omega)).1 = false) : out = G4 l := by
 obtain ⟨g1, g2⟩ := c3G l; have hnames : (out.map (·.1)).Perm (((grp l).filter a4f).map (·.1)) := by
   have := hp.map (·.1); rw [map_map] at this; exact this
 have hnd : (out.map (·.1)).Nodup := hnames.nodup_iff.2 (g1.sublist (filter_sublist.map _)); have hSS : SS (out.map (·.1)) := by
   refine pairwise_iff_getElem.2 fun i j hi hj hij => ?_
   have hj' : j < out.length := (by simpa using hj); have h1 := hs i j hij hj'; rw [b3b] at h1; simp only [getElem_map]; refine Classical.byContradiction fun hc => ?_
   have he := a2T hc h1; exact pairwise_iff_getElem.1 hnd i j hi hj hij (by simpa using he)
 have hN := a1i l [] (by simp [SS]); have e1 : out.map (·.1) = X6 l := by
   refine a7F hSS hN.1 fun n => ?_
   rw [hnames.mem_iff, show X6 l = l.foldl Y8 [] from rfl, hN.2]; simp only [mem_map, mem_filter, not_mem_nil, false_or]; constructor
   · rintro ⟨x, ⟨hx, hne⟩, rfl⟩; have hne' : x.2 ≠ [] := (by simpa [a4f] using hne); obtain ⟨v, hv⟩ := exists_mem_of_ne_nil _ hne'; obtain ⟨a, ha, e, hav⟩ := (g2 x.1 v).1 ⟨x, hx, rfl, hv⟩; exact ⟨a, ha, ne_nil_of_mem hav, e⟩
   · rintro ⟨a, ha, hne, e⟩; obtain ⟨v, hv⟩ := exists_mem_of_ne_nil _ hne; obtain ⟨x, hx, e2, hxv⟩ := (g2 n v).2 ⟨a, ha, e, hv⟩; exact ⟨x, ⟨hx, by simp [a4f]; exact ne_nil_of_mem hxv⟩, e2⟩
 have e2 : ∀ x ∈ out, x.2 = a0A l x.1 := by
   intro x hx; obtain ⟨y, hy, rfl⟩ := mem_map.1 (hp.mem_iff.1 hx); have hyg := (mem_filter.1 hy).1; have hv := d0z y.2; have hV := a0P y.1 l [] (by simp [SS]); refine a7F hv.1 hV.1 fun v => ?_
   rw [show a0A l (a2l y).1 = l.foldl (a0V y.1) [] from rfl, hV.2]; refine (hv.2 v).trans ?_; simp only [not_mem_nil, false_or]; rw [← g2 y.1 v]; constructor
   · intro h; exact ⟨y, hyg, rfl, h⟩
   · rintro ⟨z, hz, e, h⟩; obtain ⟨i, hi, rfl⟩ := mem_iff_getElem.1 hz; obtain ⟨j, hj, rfl⟩ := mem_iff_getElem.1 hyg; have hij : i = j := by
       have h1 := pairwise_iff_getElem.1 g1; rcases Nat.lt_trichotomy i j with h2 | h2 | h2
       · have h3 := h1 i j (by simpa using hi) (by simpa using hj) h2; simp only [getElem_map] at h3; exact absurd e h3
       · exact h2
       · have h3 := h1 j i (by simpa using hj) (by simpa using hi) h2; simp only [getElem_map] at h3; exact absurd e.symm h3
     subst hij; exact h
 have e3 : out = out.map fun x => (x.1, a0A l x.1) := by
   conv => lhs; rw [← map_id' out]
   refine map_congr_left fun x hx => ?_
   rw [← e2 x hx]
 rw [e3, G4, ← e1, map_map]; rfl
end Go.Proofs.Tz