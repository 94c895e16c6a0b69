/-
  What the functions that the statements about merged states reach compute, part 2 of 6, for data of bounded size (each theorem states its bound).
-/import Derived.Test.YtnknfnfinhagoaaGreatDoorTa
open List
open Go.Proofs.Tryz
set_option linter.unusedSimpArgs false
set_option linter.unusedVariables false
set_option maxRecDepth 100000
set_option maxHeartbeats 4000000
namespace Go.Proofs.Tz
open Go.Vw Go.RowKit Go.Proofs
theorem a5r (c : Csn) : Ctr prog 36 [.d (B8 c)] (.d (.str (H6 c))) := by
 refine fv (fun _ => false) func36 (by kernel_rfl) rfl rfl rfl rfl rfl ?_; have c0 := a9j c; obtain ⟨t, s, r⟩ := c; unfold H6; by_cases hv : U6 (t, s, r) = true
 · have hv' := b2w.1 hv; simp only at hv'; rw [hv] at c0; rw [if_pos hv]; obtain ⟨t', rfl⟩ := Int.eq_ofNat_of_zero_le hv'.1; obtain ⟨s', rfl⟩ := Int.eq_ofNat_of_zero_le hv'.2.2.1; obtain ⟨r', rfl⟩ := Int.eq_ofNat_of_zero_le hv'.2.2.2.2.1; have c1 := b5E t' 11 (by omega) (by omega); have c2 := b5E s' 8 (by omega) (by omega); have c3 := b5E r' 1 (by omega) (by omega); have l1 := a1z 11 t'; have l2 := a1z 8 s'; have l3 := a1z 1 r'; simp only [Int.ofNat_eq_natCast, Int.toNat_natCast]; generalize R6 t' 11 = A at *; generalize R6 s' 8 = B at *; generalize R6 r' 1 = C at *; simp only [B8] at c0; simp -implicitDefEqProofs [B8]; refine A3 c0 ?_; simp -implicitDefEqProofs; refine E4 c1 ?_; simp -implicitDefEqProofs; (repeat refine ai (by omega) ?_); refine E4 c2 ?_; simp -implicitDefEqProofs; (repeat refine ai (by omega) ?_); refine E4 c3 ?_; simp -implicitDefEqProofs; repeat refine ai (by omega) ?_
   first | done | omega
 · have hv' : U6 (t, s, r) = false := (by simpa using hv); rw [hv'] at c0; rw [if_neg hv]; simp only [B8] at c0; simp -implicitDefEqProofs [B8]; refine A3 c0 ?_; simp -implicitDefEqProofs
theorem b6Z (s : Str) (hs : length s < 1000000) : Ctr prog 53 [.d (.str s)] (.tup [.d (B8 (P5 s).1), .d (.int .i64 (P5 s).2)]) := by
 refine L9 (rv := .cell 2 32) (rs := [.tmp 3]) (r := .d (B8 (P5 s).1)) (ys := [.d (.int .i64 (P5 s).2)]) (fun i => i == 9000003) (by kernel_rfl) func53 (by kernel_rfl) rfl rfl (by simp) (nbl rfl) (by kernel_rfl) rfl rfl ?_; obtain ⟨R, hR⟩ : ∃ R, P5 s = R := ⟨_, rfl⟩; rw [hR]; unfold P5 at hR; by_cases hl : s.length = 22
 case neg =>
   have hl' : ¬ (s.length : Int) = 22 := (by omega); rw [if_pos (.inl hl)] at hR; subst hR; simp -implicitDefEqProofs [hl', B8]
 have g11 := getElem?_eq_getElem (show 11 < s.length by omega); have g20 := getElem?_eq_getElem (show 20 < s.length by omega); generalize hx11 : s[11]'(by omega) = x11 at *; generalize hx20 : s[20]'(by omega) = x20 at *; by_cases h1 : x11 = 45
 case neg =>
   have h1' : ¬ (x11.toNat : Int) = 45 := fun e => h1 (UInt8.toNat_inj.1 (show x11.toNat = (45 : UInt8).toNat by simp; omega))
   rw [if_pos (.inr (.inl (by rw [g11]; simpa using h1)))] at hR; subst hR; simp -implicitDefEqProofs [hl, hx11, h1', B8]
 by_cases h2 : x20 = 45
 case neg =>
   have h2' : ¬ (x20.toNat : Int) = 45 := fun e => h2 (UInt8.toNat_inj.1 (show x20.toNat = (45 : UInt8).toNat by simp; omega))
   rw [if_pos (.inr (.inr (by rw [g20]; simpa using h2)))] at hR; subst hR; simp -implicitDefEqProofs [hl, hx11, hx20, h1, h2', B8]
 subst h1 h2; rw [if_neg (by rw [g11, g20]; simp [hl])] at hR; have c1 := a8X (s.take 11) (by simp; omega); have c2 := a8X ((s.take 20).drop 12) (by simp; omega); have c3 := a8X (s.drop 21) (by simp; omega); have c4 := a9j (a3v s); obtain ⟨a, ha⟩ : ∃ a, a3v s = a := ⟨_, rfl⟩; have ha' := ha; unfold a3v at ha'; rw [ha] at hR c4; obtain ⟨p, q, r⟩ := a; simp only [Prod.mk.injEq] at ha'; obtain ⟨e1, e2, e3⟩ := ha'; rw [e1] at c1; rw [e2] at c2; rw [e3] at c3; rw [drop_take] at c2; rw [show s.drop 21 = (s.drop 21).take 1 from (ttl (by simp; omega)).symm] at c3; simp only at hR; simp only [B8] at c4; by_cases hp : p < 0
 · rw [if_pos (.inl hp)] at hR; subst hR; simp -implicitDefEqProofs [hl, hx11, hx20, B8]; refine E4 c1 ?_; simp -implicitDefEqProofs [hl]; refine E4 c2 ?_; simp -implicitDefEqProofs [hl]; refine E4 c3 ?_; simp -implicitDefEqProofs [hp]
 by_cases hq : q < 0
 · rw [if_pos (.inr (.inl hq))] at hR; subst hR; simp -implicitDefEqProofs [hl, hx11, hx20, B8]; refine E4 c1 ?_; simp -implicitDefEqProofs [hl]; refine E4 c2 ?_; simp -implicitDefEqProofs [hl]; refine E4 c3 ?_; simp -implicitDefEqProofs [hp, hq]
 by_cases hr : r < 0
 · rw [if_pos (.inr (.inr hr))] at hR; subst hR; simp -implicitDefEqProofs [hl, hx11, hx20, B8]; refine E4 c1 ?_; simp -implicitDefEqProofs [hl]; refine E4 c2 ?_; simp -implicitDefEqProofs [hl]; refine E4 c3 ?_; simp -implicitDefEqProofs [hp, hq, hr]
 rw [if_neg (by omega)] at hR; by_cases hv : U6 (p, q, r) = true
 · rw [if_neg (by rw [hv]; simp)] at hR; subst hR; rw [hv] at c4; simp -implicitDefEqProofs [hl, hx11, hx20, B8]; refine E4 c1 ?_; simp -implicitDefEqProofs [hl]; refine E4 c2 ?_; simp -implicitDefEqProofs [hl]; refine E4 c3 ?_; simp -implicitDefEqProofs [hp, hq, hr]; refine A3 c4 ?_; simp -implicitDefEqProofs
 · have hv' : U6 (p, q, r) = false := (by simpa using hv); rw [if_pos hv'] at hR; subst hR; rw [hv'] at c4; simp -implicitDefEqProofs [hl, hx11, hx20, B8]; refine E4 c1 ?_; simp -implicitDefEqProofs [hl]; refine E4 c2 ?_; simp -implicitDefEqProofs [hl]; refine E4 c3 ?_; simp -implicitDefEqProofs [hp, hq, hr]; refine A3 c4 ?_; simp -implicitDefEqProofs
end Go.Proofs.Tz
namespace Go.Proofs.Tz
open Go.Vw
theorem c5R (l m : List Str) (hl : l.length < 1000000) (hm : m.length < 1000000) : Ctr prog 111 [.d (C7 l), .d (C7 m)] (.d (.bool (decide (l = m)))) := by
 refine fv (fun _ => false) func111 (by kernel_rfl) rfl rfl rfl rfl rfl ?_; by_cases hlm : l.length = m.length
 · simp -implicitDefEqProofs [C7, hlm]; refine H4 m.length (fun k τ => τ 0 = .d (C7 l) ∧ τ 1 = .d (C7 m) ∧ τ 5 = .d (.int .i64 k) ∧ l.take k = m.take k) (by simp [C7]) ?_; rintro k τ hk ⟨h0, h1, h5, ht⟩; by_cases hlt : k < m.length
   · have hlt' : k < l.length := (by omega); by_cases he : l[k] = m[k]
     · simp -implicitDefEqProofs [h0, h1, h5, C7, hlm, hlt, hlt', he]; refine ⟨by omega, F0 hlt ⟨by simp [h0, C7], by simp [h1, C7], by simp, ?_⟩⟩; rw [G9 hlt, G9 hlt', ht, he]
     · simp -implicitDefEqProofs [h0, h1, h5, C7, hlm, hlt, hlt', he]; rintro rfl; exact he rfl
   · simp -implicitDefEqProofs [h0, h1, h5, C7, hlm, hlt]; rw [ttl (by omega), ttl (by omega)] at ht
     first | exact ⟨by omega, ht⟩ | exact ht
 · have hlm' : ¬ (l.length : Int) = m.length := (by omega); simp -implicitDefEqProofs [C7, hlm']; rintro rfl; exact hlm rfl
def P4 (s : Str) (r : Bool × List Str) (x : Str) : Bool × List Str :=
 (r.1 || !Op.bytesLess x s, r.2 ++ (if r.1 = false ∧ Op.bytesLess x s = false then [s] else []) ++ (if x = s then [] else [x]))
def a2P (s : Str) (l : List Str) : Bool × List Str := l.foldl (P4 s) (false, [])
def ins (l : List Str) (s : Str) : List Str := (a2P s l).2 ++ (if (a2P s l).1 then [] else [s])
theorem c0e {s : Str} {l : List Str} {k : Nat} (h : k < l.length) : a2P s (l.take (k + 1)) = P4 s (a2P s (l.take k)) l[k] := by
 rw [G9 h]; simp only [a2P, foldl_append, foldl_cons, foldl_nil]
theorem b6b (s : Str) : ∀ (l : List Str) (r : Bool × List Str), (l.foldl (P4 s) r).2.length ≤ r.2.length + 2 * l.length
 | [], r => by simp
 | x :: l, r => by
   have := b6b s l (P4 s r x); simp only [foldl_cons, length_cons]; have h2 : (P4 s r x).2.length ≤ r.2.length + 2 := by
     simp only [P4, length_append]; split <;> split <;> simp <;> omega
   all_goals omega
theorem c1Z (s : Str) (l : List Str) : (a2P s l).2.length ≤ 2 * l.length := by simpa [a2P] using b6b s l (false, [])
theorem c1b (l : List Str) (s : Str) (hl : l.length < 1000000) : Ctr prog 112 [.d (C7 l), .d (.str s)] (.own true 9 ((ins l s).map .str)) := by
 refine fv (fun i => decide (i < 1000000)) func112 (by kernel_rfl) rfl rfl rfl rfl rfl ?_; simp -implicitDefEqProofs; refine H4 l.length (fun k τ => τ 0 = .d (C7 l) ∧ τ 1 = .d (.str s) ∧ τ 6 = .d (.bool (a2P s (l.take k)).1) ∧ τ 5 = .own true 9 ((a2P s (l.take k)).2.map .str) ∧ τ 7 = .d (.int .i64 k)) (by simp [a2P]) ?_; rintro k τ hk ⟨h0, h1, h6, h5, h7⟩; have hlen := c1Z s (l.take k); rw [length_take, Nat.min_eq_left hk] at hlen; have ht := fun h => c0e (s := s) (l := l) (k := k) h
 generalize hr : a2P s (l.take k) = r at *; obtain ⟨d, out⟩ := r; simp only at hlen h6 h5; by_cases hlt : k < l.length
 · have ht := ht hlt; cases d with
   | true =>
     by_cases he : l[k] = s
     · simp -implicitDefEqProofs [h0, h1, h6, h5, h7, C7, hlt, he]; refine ⟨by omega, F0 hlt ⟨by simp [h0, C7], by simp [h1], ?_, ?_, by simp⟩⟩
       · rw [ht]; simp [h6, P4]
       · rw [ht]; simp [h5, P4, he]
     · simp -implicitDefEqProofs [h0, h1, h6, h5, h7, C7, hlt, he]; refine ⟨by omega, by omega, by omega, F0 hlt ⟨by simp [h0, C7], by simp [h1], ?_, ?_, by simp⟩⟩
       · rw [ht]; simp [h6, P4]
       · rw [ht]; simp [h5, P4, he]
   | false =>
     by_cases hb : Op.bytesLess l[k] s = true
     · by_cases he : l[k] = s
       · have hb' : Op.bytesLess s s = true := by rw [he] at hb; exact hb
         simp -implicitDefEqProofs [h0, h1, h6, h5, h7, C7, hlt, he, hb']; refine ⟨by omega, F0 hlt ⟨by simp [h0, C7], by simp [h1], ?_, ?_, by simp⟩⟩
         · rw [ht]; simp [h6, P4, he, hb']
         · rw [ht]; simp [h5, P4, he, hb']
       · simp -implicitDefEqProofs [h0, h1, h6, h5, h7, C7, hlt, he, hb]; refine ⟨by omega, by omega, by omega, F0 hlt ⟨by simp [h0, C7], by simp [h1], ?_, ?_, by simp⟩⟩
         · rw [ht]; simp [h6, P4, he, hb]
         · rw [ht]; simp [h5, P4, he, hb]
     · by_cases he : l[k] = s
       · have hb' : Op.bytesLess s s = false := by rw [he] at hb; simpa using hb
         simp -implicitDefEqProofs [h0, h1, h6, h5, h7, C7, hlt, he, hb']; refine ⟨by omega, by omega, by omega, F0 hlt ⟨by simp [h0, C7], by simp [h1], ?_, ?_, by simp⟩⟩
         · rw [ht]; simp [h6, P4, he, hb']
         · rw [ht]; simp [h5, P4, he, hb']
       · simp -implicitDefEqProofs [h0, h1, h6, h5, h7, C7, hlt, he, hb]; refine ⟨by omega, by omega, by omega, by omega, by omega, F0 hlt ⟨by simp [h0, C7], by simp [h1], ?_, ?_, by simp⟩⟩
         · rw [ht]; simp [h6, P4, he, hb]
         · rw [ht]; simp [h5, P4, he, hb]
 · rw [ttl (by omega)] at hr; cases d with
   | true =>
     simp -implicitDefEqProofs [h0, h1, h6, h5, h7, C7, hlt, ins, hr]
     all_goals omega
   | false =>
     simp -implicitDefEqProofs [h0, h1, h6, h5, h7, C7, hlt, ins, hr]
     all_goals omega
abbrev Att := Str × List Str
def att (a : Att) : D := .agg [.str a.1, C7 a.2]
def G5 (l : List Att) : D := .sl (l.map att)
def b3a (l : List Att) : Prop := l.length < 1000000 ∧ ∀ a ∈ l, length a.1 < 1000000 ∧ a.2.length < 1000000
theorem c3v (l m : List Att) (hl : b3a l) (hm : b3a m) : Ctr prog 60 [.d (G5 l), .d (G5 m)] (.d (.bool (decide (l = m)))) := by
 refine fv (fun _ => false) func60 (by kernel_rfl) rfl rfl rfl rfl rfl ?_; have hl1 := hl.1; have hm1 := hm.1; by_cases hlm : l.length = m.length
 · simp -implicitDefEqProofs [G5, hlm]; refine H4 m.length (fun k τ => τ 0 = .d (G5 l) ∧ τ 1 = .d (G5 m) ∧ τ 5 = .d (.int .i64 k) ∧ l.take k = m.take k) (by simp [G5]) ?_; rintro k τ hk ⟨h0, h1, h5, ht⟩; by_cases hlt : k < m.length
   · have hlt' : k < l.length := (by omega); by_cases he : l[k].1 = m[k].1
     · simp -implicitDefEqProofs [h0, h1, h5, G5, att, C7, hlm, hlt, hlt', he]; refine E4 (c5R _ _ (hl.2 _ (gmm hlt')).2 (hm.2 _ (gmm hlt)).2) ?_; by_cases he2 : l[k].2 = m[k].2
       · simp -implicitDefEqProofs [h0, h1, h5, G5, att, C7, hlm, hlt, hlt', he, he2]; refine ⟨by omega, F0 hlt ⟨by simp [h0, G5, att, C7], by simp [h1, G5, att, C7], by simp, ?_⟩⟩; rw [G9 hlt, G9 hlt', ht, Prod.ext he he2]
       · simp -implicitDefEqProofs [h0, h1, h5, G5, att, C7, hlm, hlt, hlt', he, he2]; rintro rfl; exact he2 rfl
     · simp -implicitDefEqProofs [h0, h1, h5, G5, att, C7, hlm, hlt, hlt', he]; rintro rfl; exact he rfl
   · simp -implicitDefEqProofs [h0, h1, h5, G5, hlm, hlt]; rw [ttl (by omega), ttl (by omega)] at ht
     first | exact ⟨by omega, ht⟩ | exact ht
 · have hlm' : ¬ (l.length : Int) = m.length := (by omega); simp -implicitDefEqProofs [G5, hlm']; rintro rfl; exact hlm rfl
theorem b3P (s : Str) : ∀ (l : List Str) (r : Bool × List Str) (c : Nat), r.2.length ≤ c + r.1.toNat → (l.foldl (P4 s) r).2.length ≤ c + l.length + (l.foldl (P4 s) r).1.toNat
 | [], _, _, h => h
 | x :: l, (d, out), c, h => by
   have h2 : (P4 s (d, out) x).2.length ≤ (c + 1) + (P4 s (d, out) x).1.toNat := by
     simp only at h; cases d <;> by_cases hb : Op.bytesLess x s = true <;> by_cases he : x = s <;> simp [P4, hb, he] at h ⊢ <;> first
       | omega
       | (split <;> simp <;> omega)
   have := b3P s l (P4 s (d, out) x) (c + 1) h2; simp only [foldl_cons, length_cons]; omega
theorem b7R (l : List Str) (s : Str) : (ins l s).length ≤ l.length + 1 := by
 have : (a2P s l).2.length ≤ 0 + l.length + (a2P s l).1.toNat := b3P s l (false, []) 0 (by simp); simp only [ins, length_append]; cases h : (a2P s l).1 <;> simp [h] at this ⊢ <;> omega
def Z6 (ns : List Str) (a : Att) : List Str := if a.2 = [] then ns else ins ns (D7 a.1)
def X5 (l : List Att) : List Str := l.foldl Z6 []
def a0W (n : Str) (vs : List Str) (a : Att) : List Str := if D7 a.1 = n then a.2.foldl ins vs else vs
def a0A (l : List Att) (n : Str) : List Str := l.foldl (a0W n) []
def G2 (l : List Att) : List Att := (X5 l).map fun n => (n, a0A l n)
theorem b0c {l : List Att} {k : Nat} (h : k < l.length) : X5 (l.take (k + 1)) = Z6 (X5 (l.take k)) l[k] := by
 rw [G9 h]; simp only [X5, foldl_append, foldl_cons, foldl_nil]
theorem b9p {l : List Att} {n : Str} {k : Nat} (h : k < l.length) : a0A (l.take (k + 1)) n = a0W n (a0A (l.take k) n) l[k] := by
 rw [G9 h]; simp only [a0A, foldl_append, foldl_cons, foldl_nil]
theorem a5B : ∀ (l : List Att) (ns : List Str), (l.foldl Z6 ns).length ≤ ns.length + l.length
 | [], ns => by simp
 | a :: l, ns => by
   have := a5B l (Z6 ns a); have h2 : (Z6 ns a).length ≤ ns.length + 1 := by
     unfold Z6; split
     · omega
     · exact b7R _ _
   simp only [foldl_cons, length_cons]; omega
theorem a7L : ∀ (l ns : List Str), (l.foldl ins ns).length ≤ ns.length + l.length
 | [], ns => by simp
 | a :: l, ns => by
   have := a7L l (ins ns a); have := b7R ns a; simp only [foldl_cons, length_cons]; omega
def I0 (l : List Att) : Nat := (l.map (·.2.length)).sum
theorem b6o (n : Str) : ∀ (l : List Att) (vs : List Str), (l.foldl (a0W n) vs).length ≤ vs.length + I0 l
 | [], vs => by simp [I0]
 | a :: l, vs => by
   have := b6o n l (a0W n vs a); have h2 : (a0W n vs a).length ≤ vs.length + a.2.length := by
     unfold a0W; split
     · exact a7L _ _
     · omega
   simp only [foldl_cons, I0, map_cons, sum_cons] at this ⊢
   all_goals omega
def a5R (l : List Att) : Prop := b3a l ∧ I0 l < 500000
theorem b1X (l : List Att) (k : Nat) (h : k < l.length) : I0 (l.take k) + l[k].2.length ≤ I0 l := by
 have e : I0 l = I0 (l.take k) + (l[k].2.length + I0 (l.drop (k + 1))) := by
   conv => lhs; rw [← take_append_drop k l, drop_eq_getElem_cons h]
   simp only [I0, map_append, map_cons, sum_append, sum_cons]
 all_goals omega
def a3t (l : List Att) (ns : List Str) (i : Nat) : List D := ((ns.take i).map fun n => (n, a0A l n)).map att
theorem c1C (l : List Att) (ns : List Str) : a3t l ns 0 = [] := rfl
theorem c2s (l : List Att) {ns : List Str} {i : Nat} (h : i < ns.length) : a3t l ns (i + 1) = a3t l ns i ++ [.agg [.str ns[i], C7 (a0A l ns[i])]] := by
 rw [a3t, G9 h]; simp only [map_append, map_cons, map_nil]; rfl
theorem c4F (l : List Att) {ns : List Str} {i : Nat} (h : i ≤ ns.length) : (a3t l ns i).length = i := by simp [a3t, Nat.min_eq_left h]
theorem c3h (l : List Att) (i : Nat) (h : (X5 l).length ≤ i) : a3t l (X5 l) i = (G2 l).map att := by rw [a3t, ttl h]; rfl
theorem b8H (l : List Att) (ns : List Str) (i : Nat) : ∀ u ∈ a3t l ns i, A9 u = 2 := by
 intro u hu; simp only [a3t, map_map, mem_map] at hu; obtain ⟨n, _, rfl⟩ := hu; rfl
theorem b1t (l : List Att) (hl : a5R l) : Ctr prog 61 [.d (G5 l)] (.own true 72 ((G2 l).map att)) := by
 refine fv (fun i => i == 5) func61 (by kernel_rfl) rfl rfl rfl rfl rfl ?_; obtain ⟨⟨hl1, hl2⟩, hl3⟩ := hl; simp -implicitDefEqProofs; refine H4 l.length (fun k τ => τ 0 = .d (G5 l) ∧ τ 4 = .d (.int .i64 k) ∧ τ 3 = .own false 9 ((X5 (l.take k)).map .str)) (by simp [X5]) ?_; rintro k τ hk ⟨h0, h4, h3⟩; by_cases hlt : k < l.length
 · have hn := a5B (l.take k) []; rw [length_take] at hn; by_cases he : l[k].2 = []
   · simp -implicitDefEqProofs [h0, h4, h3, hlt, G5, att, C7, he]; refine ⟨by omega, F0 hlt ⟨by simp [h0, G5, att, C7], by simp, ?_⟩⟩; rw [b0c hlt]; simp [h3, Z6, he]
   · have he' : 0 < l[k].2.length := length_pos_iff.2 he; simp -implicitDefEqProofs [h0, h4, h3, hlt, G5, att, C7, he']; refine A3 (a7o _ (hl2 _ (gmm hlt)).1) ?_; simp -implicitDefEqProofs [h0, h4, h3, hlt, G5, att, C7, he']; have hf := c1b (X5 (l.take k)) (D7 l[k].1) (by simp only [length_nil] at hn; unfold X5; omega); simp only [C7] at hf; refine A3 hf ?_; simp -implicitDefEqProofs [h0, h4, h3, hlt, G5, att, C7, he']; refine ⟨by omega, F0 hlt ⟨by simp [h0, G5, att, C7], by simp, ?_⟩⟩; rw [b0c hlt]; simp [Z6, he]
 · simp -implicitDefEqProofs [h0, h4, h3, hlt, G5]; rw [ttl (by omega)] at h3; have hn := a5B l []; generalize hN : X5 l = ns at *; rw [show foldl Z6 [] l = X5 l from rfl, hN] at hn; simp only [length_nil, Nat.zero_add] at hn; refine H4 ns.length (fun i τ => τ 0 = .d (G5 l) ∧ τ 3 = .own false 9 (ns.map .str) ∧ τ 6 = .d (.int .i64 i) ∧ τ 5 = .own true 72 (a3t l ns i)) (by simp [h0, h3, hN, G5, c1C]) ?_; clear h0 h3 h4 τ; rintro i τ hi ⟨h0, h3, h6, h5⟩; by_cases hlt2 : i < ns.length
   · simp -implicitDefEqProofs [h0, h3, h5, h6, hlt2, G5, att, C7]; refine H4 l.length (fun k τ => τ 0 = .d (G5 l) ∧ τ 3 = .own false 9 (ns.map .str) ∧ τ 6 = .d (.int .i64 i) ∧ τ 5 = .own true 72 (a3t l ns i) ∧ τ 8 = .d (.int .i64 k) ∧ τ 7 = .box (.agg [.str ns[i], C7 (a0A (l.take k) ns[i])])) (by simp [h0, h3, h5, h6, hN, G5, att, C7, a0A]) ?_; clear h0 h3 h6 h5 τ hk hlt k; rintro k τ hk ⟨h0, h3, h6, h5, h8, h7⟩; by_cases hlt : k < l.length
     · have hv := b6o ns[i] (l.take k) []; have ht := b1X l k hlt; rw [show (l.take k).foldl (a0W ns[i]) [] = a0A (l.take k) ns[i] from rfl] at hv; have hst := b9p (n := ns[i]) hlt; generalize a0A (l.take k) ns[i] = vs at *; simp -implicitDefEqProofs [h0, h3, h5, h6, h7, h8, hlt, hlt2, G5, att, C7]; refine H4 l[k].2.length (fun j τ => τ 0 = .d (G5 l) ∧ τ 3 = .own false 9 (ns.map .str) ∧ τ 6 = .d (.int .i64 i) ∧ τ 5 = .own true 72 (a3t l ns i) ∧ τ 8 = .d (.int .i64 k) ∧ τ 9 = .d (.int .i64 j) ∧ τ 7 = .box (.agg [.str ns[i], C7 (if D7 l[k].1 = ns[i] then (l[k].2.take j).foldl ins vs else vs)])) (by simp [h0, h3, h5, h6, h7, h8, G5, att, C7]) ?_; clear h0 h3 h6 h5 h8 h7 τ; rintro j τ hj ⟨h0, h3, h6, h5, h8, h9, h7⟩; have hal := (hl2 _ (gmm hlt)); by_cases hn : D7 l[k].1 = ns[i]
       · rw [if_pos hn] at h7; by_cases hlt3 : j < l[k].2.length
         · simp -implicitDefEqProofs [h0, h3, h5, h6, h7, h8, h9, hlt, hlt2, hlt3, G5, att, C7]; refine E4 (a7o _ hal.1) ?_; simp -implicitDefEqProofs [h0, h3, h5, h6, h7, h8, h9, hlt, hlt2, hlt3, G5, att, C7, hn]; have hal2 := a7L (l[k].2.take j) vs; have hf := c1b ((l[k].2.take j).foldl ins vs) l[k].2[j] (by simp only [length_take, length_nil] at hal2 hv; omega); simp only [C7] at hf; refine E4 hf ?_; simp -implicitDefEqProofs [h0, h3, h5, h6, h7, h8, h9, hlt, hlt2, hlt3, G5, att, C7, hn]; refine ⟨by omega, F0 hlt3 ⟨by simp [h0, G5, att, C7], by simp [h3], by simp [h6], by simp [h5], by simp [h8], by simp, ?_⟩⟩; rw [G9 hlt3, foldl_append]; simp -implicitDefEqProofs [C7]
         · simp -implicitDefEqProofs [h0, h3, h5, h6, h7, h8, h9, hlt, hlt2, hlt3, G5, att, C7]; refine E4 (a7o _ hal.1) ?_; simp -implicitDefEqProofs [h0, h3, h5, h6, h7, h8, h9, hlt, hlt2, hlt3, G5, att, C7, hn]; refine ⟨by omega, F0 hlt ⟨by simp [h0, G5, att, C7], by simp [h3], by simp [h6], by simp [h5], by simp, ?_⟩⟩; rw [hst, a0W, if_pos hn]; rw [ttl (by omega)] at h7; simp -implicitDefEqProofs [h7, C7]
       · rw [if_neg hn] at h7; simp -implicitDefEqProofs [h0, h3, h5, h6, h7, h8, h9, hlt, hlt2, G5, att, C7]; refine E4 (a7o _ hal.1) ?_; simp (config := { maxSteps := 1000000 }) [h0, h3, h5, h6, h7, h8, h9, hlt, hlt2, G5, att, C7, hn]; refine ⟨by omega, F0 hlt ⟨by simp [h0, G5, att, C7], by simp [h3], by simp [h6], by simp [h5], by simp, ?_⟩⟩; rw [hst, a0W, if_neg hn]; simp -implicitDefEqProofs [h7, C7]
     · have hw := b8H l ns i; rw [ttl (by omega)] at h7; simp -implicitDefEqProofs [h0, h3, h5, h6, h7, h8, hlt, hlt2, G5, att, C7]; rw [c4F l hi]; refine ⟨by omega, by omega, by omega, F0 hlt2 ⟨by simp [h0, G5, att, C7], by simp [h3], by simp, ?_⟩⟩; simp -implicitDefEqProofs [c2s l hlt2, C7]
   · simp -implicitDefEqProofs [h0, h3, h5, h6, hlt2, G5, att, C7]; rw [← hN]; exact c3h l i (by rw [hN]; omega)
theorem b5P (c : UInt8) : Ctr prog 109 [.d (u8 c)] (.d (.bool (decide (65 ≤ (c.toNat : Int)) && decide ((c.toNat : Int) ≤ 90)))) := by
 refine fv (fun _ => false) func109 (by kernel_rfl) rfl rfl rfl rfl rfl ?_; by_cases h1 : 65 ≤ (c.toNat : Int) <;> simp [u8, h1]
theorem b2A (c : UInt8) : Ctr prog 107 [.d (u8 c)] (.d (.bool (a3u c))) := by
 refine fv (fun _ => false) func107 (by kernel_rfl) rfl rfl rfl rfl rfl ?_; simp -implicitDefEqProofs; refine A3 (b5P c) ?_; by_cases h1 : 97 ≤ (c.toNat : Int) <;> by_cases h2 : (c.toNat : Int) ≤ 122 <;> by_cases h3 : 65 ≤ (c.toNat : Int) <;> by_cases h4 : (c.toNat : Int) ≤ 90 <;> simp -implicitDefEqProofs [u8, a3u, h1, h2, h3, h4]
theorem c0B (c : UInt8) : Ctr prog 108 [.d (u8 c)] (.d (.bool (a9B c))) := by
 refine fv (fun _ => false) func108 (by kernel_rfl) rfl rfl rfl rfl rfl ?_; by_cases h1 : 48 ≤ (c.toNat : Int) <;> simp [u8, a9B, h1]
theorem b8B (c : UInt8) : Ctr prog 106 [.d (u8 c)] (.d (.bool (a1Q c))) := by
 refine fv (fun _ => false) func106 (by kernel_rfl) rfl rfl rfl rfl rfl ?_; simp -implicitDefEqProofs [u8]; refine A3 (b2A c) ?_; by_cases h1 : a3u c = true
 · simp -implicitDefEqProofs [h1, a1Q]
 · simp -implicitDefEqProofs [h1]; refine A3 (c0B c) ?_; by_cases h2 : a9B c = true <;> by_cases h3 : (c.toNat : Int) = 45 <;> simp [h1, h2, h3, a1Q]
theorem b8z (l : List Att) : (G2 l).length ≤ l.length := by
 have := a5B l []; simp only [length_nil, Nat.zero_add] at this; simpa [G2, X5] using this
theorem c6y (s : Str) (hs : length s < 1000000) : Ctr prog 105 [.d (.str s), .d (.clo 106 [])] (.d (.bool (s.all a1Q && decide (s ≠ []) && decide (s.length ≤ 64)))) := by
 refine fv (fun _ => false) func105 (by kernel_rfl) rfl rfl rfl rfl rfl ?_; simp -implicitDefEqProofs; refine H4 (length s) (fun k τ => τ 0 = .d (.str s) ∧ τ 1 = .d (.clo 106 []) ∧ τ 7 = .d (.int .i64 (length s)) ∧ τ 8 = .d (.int .i64 k) ∧ ∀ x ∈ s.take k, a1Q x = true) (by simp) ?_; rintro k τ hk ⟨h0, h1, h7, h8, ha⟩; by_cases hlt : k < length s
 · simp -implicitDefEqProofs [h0, h1, h7, h8, hlt]; refine A3 (b8B s[k]) ?_; by_cases e1 : a1Q s[k] = true
   · simp -implicitDefEqProofs [h0, h1, h7, h8, hlt, e1]; exact ⟨by omega, F0 hlt ⟨by simp [h0], by simp [h1], by simp [h7], by simp, b5m hlt ha e1⟩⟩
   · simp -implicitDefEqProofs [h0, h1, h7, h8, hlt, e1]; intro h; exact absurd (h _ (gmm hlt)) e1
 · rw [ttl (by omega)] at ha; have hall : List.all s a1Q = true := (by simpa using ha); by_cases e2 : s = []
   · simp -implicitDefEqProofs [h0, h1, h7, h8, hlt, e2]
   · simp -implicitDefEqProofs [h0, h1, h7, h8, hlt, e2, hall]
     all_goals omega
theorem b0O (s : Str) (hs : length s < 1000000) : Ctr prog 55 [.d (.str s)] (.d (.bool (U0 s))) := by
 refine fv (fun _ => false) func55 (by kernel_rfl) rfl rfl rfl rfl rfl ?_; simp -implicitDefEqProofs; refine A3 (c6y s hs) ?_; by_cases e : (s.all a1Q && decide (s ≠ []) && decide (s.length ≤ 64)) = true
 · have e0 := e; simp only [Bool.and_eq_true, decide_eq_true_eq] at e; obtain ⟨⟨e1, e2⟩, e3⟩ := e; obtain ⟨c, t, rfl⟩ := exists_cons_of_ne_nil e2; simp only [e0]; simp -implicitDefEqProofs; refine A3 (b2A c) ?_; have e4 : (length (c :: t)) ≤ 64 := e3; simp -implicitDefEqProofs [U0, e1, e4]; intro _; simpa using e4
 · rw [Bool.not_eq_true] at e; simp only [e]; simp -implicitDefEqProofs [U0]; intro h1 h2 _; have hne : s ≠ [] := by
     rintro rfl; simp at h1
   simpa [hne, h2] using e
def fil (n : Str) (s : List Att) : List Att := s.filter fun a => !decide (a.1 = n)
def b5D (l : List Att) (name : Str) : List Att := fil (D7 name) (G2 l)
def a5q (l : List Att) (name : Str) (v : List Str) : List Att × Int :=
 if 32 < (G2 (b5D l name ++ [(name, v)])).length ∨ 16 < v.length then ([], 3) else (G2 (b5D l name ++ [(name, v)]), 0)
def a3e {α : Type} (p : α → Bool) : Nat → List α → Int
 | _, [] => -1
 | k, x :: l => if p x = true then k else a3e p (k + 1) l
theorem c1d {α : Type} {p : α → Bool} {l : List α} {k : Nat} (h : k < l.length) : a3e p k (l.drop k) = if p l[k] = true then (k : Int) else a3e p (k + 1) (l.drop (k + 1)) := by
 rw [drop_eq_getElem_cons h, a3e]
end Go.Proofs.Tz
namespace Go.Proofs.Tz
open Go.Vw Go.RowKit Go.Proofs
def b2R {α : Type} (p : α → Bool) (l : List α) (k : Nat) : Bool := (l.take k).any p
end Go.Proofs.Tz
namespace Go.Proofs.Tz
open Go.Vw
theorem c3d {c : UInt8} (h : ¬ (65 ≤ (c.toNat : Int) ∧ (c.toNat : Int) ≤ 90)) : a1B c = c := if_neg h
def a2o (s : Str) (k : Nat) : List D := ((D7 (s.take k)) ++ s.drop k).map u8
theorem c0d (s : Str) (k : Nat) (h : k ≤ length s) : (a2o s k).length = length s := by simp [a2o, D7]; omega
theorem c0G (s : Str) (k : Nat) (h : k < length s) : (a2o s k)[k]? = some (u8 s[k]) := by
 have hl : (D7 (s.take k)).length = k := by simp [D7]; omega
 simp only [a2o, getElem?_map]; rw [getElem?_append_right (by omega), hl, Nat.sub_self]; simp [h]
theorem c1s (s : Str) (k : Nat) (h : k < length s) : (a2o s k).set k (u8 (a1B s[k])) = a2o s (k + 1) := by
 have hl : (D7 (s.take k)).length = k := by simp [D7]; omega
 simp only [a2o, ← map_set]; rw [set_append_right _ _ (by omega), hl, Nat.sub_self, drop_eq_getElem_cons h, set_cons_zero, G9 h]; simp only [D7, map_append, map_cons, map_nil, append_assoc, singleton_append]
theorem a2V (s : Str) (hs : length s < 1000000) : Ctr prog 56 [.d (.str s)] (.d (.str (D7 s))) := by
 refine fv (fun i => decide (i < 1000000)) func56 (by kernel_rfl) rfl rfl rfl rfl rfl ?_; simp -implicitDefEqProofs; refine ⟨by omega, ?_⟩; refine H4 (length s) (fun k τ => τ 9 = .d (.int .i64 k) ∧ τ 8 = .d (.int .i64 (length s)) ∧ τ 3 = .own true 100005 (a2o s k)) (by simp [a2o, D7, D5, u8]) ?_; rintro k τ hk ⟨h9, h8, h3⟩; have hlen := c0d s k hk; by_cases hlt : k < length s
 · have hg := c0G s k hlt; have hset := c1s s k hlt; generalize a2o s k = M at *; have hlt2 : k < M.length := (by omega); have hg2 : M[k] = u8 s[k] := (List.getElem?_eq_some_iff.1 hg).2; simp -implicitDefEqProofs [h9, h8, h3, hlt, hlt2, hg2, u8]; refine A3 (b5P _) ?_; by_cases h1 : 65 ≤ (s[k].toNat : Int) ∧ (s[k].toNat : Int) ≤ 90
   · simp -implicitDefEqProofs [h9, h8, h3, hlt, hlt2, hg2, u8, h1.1, h1.2]; have e : u8 (a1B s[k]) = .int .u8 ((s[k].toNat : Int) + 32) := by
       simp only [u8, a4n _ h1.1 h1.2]; congr 1; omega
     rw [e] at hset; exact ⟨by omega, by omega, F0 hlt ⟨by simp, by simp [h8], by simp [hset]⟩⟩
   · have hb : (decide (65 ≤ (s[k].toNat : Int)) && decide ((s[k].toNat : Int) ≤ 90)) = false := (by simpa using h1); simp -implicitDefEqProofs [h9, h8, h3, hlt, hlt2, hg2, u8, hb]; rw [c3d h1, ← hg2, set_getElem_self] at hset; exact ⟨by omega, F0 hlt ⟨by simp, by simp [h8], by simp [h3, hset]⟩⟩
 · simp -implicitDefEqProofs [h9, h8, h3, hlt]; have e : a2o s k = D5 (D7 s) := by
     have : k = length s := (by omega); subst this; simp [a2o, D5, u8]
   simp -implicitDefEqProofs [e, h3]
theorem c6S {x c : UInt8} (h : ¬ x = c) : ¬ ((x.toNat : Int) = c.toNat) := fun e => h (UInt8.toNat_inj.1 (by omega))
def Z3 (c : UInt8) (s : Str) : Str := s.dropWhile fun x => decide (x = c)
def T0 (c : UInt8) (s : Str) : Str := (s.reverse.dropWhile fun x => decide (x = c)).reverse
theorem c3c (s : Str) (c : UInt8) : Ctr prog 191 [.d (.str s), .d (u8 c)] (.d (.str (Z3 c s))) := by
 refine fv (fun _ => false) func191 (by kernel_rfl) rfl rfl rfl rfl rfl ?_; simp -implicitDefEqProofs [u8]; refine b2s (fun n τ => ∃ t : Str, n = t.length ∧ τ 0 = .d (.str t) ∧ τ 1 = .d (.int .u8 c.toNat) ∧ Z3 c t = Z3 c s) s.length ⟨s, rfl, by simp, by simp, rfl⟩ ?_; rintro n τ ⟨t, rfl, h0, h1, ht⟩; cases t with
 | nil =>
   simp -implicitDefEqProofs [h0, h1]; rw [← ht]; rfl
 | cons x t =>
   by_cases hx : x = c
   · subst hx; simp -implicitDefEqProofs [h0, h1]; exact ⟨_, by omega, t, rfl, rfl, by rw [← ht, Z3, Z3, dropWhile_cons, if_pos (by simp)]⟩
   · have := c6S hx; simp -implicitDefEqProofs [h0, h1, this]; rw [← ht, Z3, dropWhile_cons, if_neg (by simp [hx])]
theorem a3I {c : UInt8} {t : Str} (h : 0 < length t) : T0 c t = if t[length t - 1] = c then T0 c (t.take (length t - 1)) else t := by
 have e : t = t.take (length t - 1) ++ [t[length t - 1]] := by
   have := G9 (l := t) (k := length t - 1) (by omega); rw [show length t - 1 + 1 = length t by omega, take_length] at this; exact this
 conv => lhs; rw [e]
 rw [T0, reverse_append, reverse_singleton, singleton_append, dropWhile_cons]; by_cases hx : t[length t - 1] = c
 · rw [if_pos (by simpa using hx), if_pos hx, T0]
 · rw [if_neg (by simpa using hx), if_neg hx, reverse_cons, reverse_reverse]; exact e.symm
theorem c3f (s : Str) (c : UInt8) (hs : length s < 1000000) : Ctr prog 192 [.d (.str s), .d (u8 c)] (.d (.str (T0 c s))) := by
 refine fv (fun _ => false) func192 (by kernel_rfl) rfl rfl rfl rfl rfl ?_; simp -implicitDefEqProofs [u8]; refine b2s (fun n τ => ∃ t : Str, n = t.length ∧ τ 0 = .d (.str t) ∧ τ 1 = .d (.int .u8 c.toNat) ∧ length t < 1000000 ∧ T0 c t = T0 c s) s.length ⟨s, rfl, by simp, by simp, hs, rfl⟩ ?_; rintro n τ ⟨t, rfl, h0, h1, hl, ht⟩; by_cases hpos : 0 < length t
 · have hi : 0 ≤ (length t : Int) - 1 := (by omega); have hi2 : ((length t : Int) - 1).toNat = length t - 1 := (by omega); have hi3 : length t - 1 < length t := (by omega); have hi4 : -9223372036854775808 ≤ (length t : Int) - 1 := (by omega); have hi5 : (length t : Int) - 1 ≤ 9223372036854775807 := (by omega); have hi6 : 1 ≤ (length t : Int) := (by omega); have hz : ¬ t = [] := fun e => by subst e; simp at hpos
   rw [a3I hpos] at ht; by_cases hx : t[length t - 1] = c
   · rw [if_pos hx] at ht; simp -implicitDefEqProofs [h0, h1, hpos, hi, hi2, hi3, hi4, hi5, hi6, hx, hz]; exact ⟨length t - 1, by omega, t.take (length t - 1), by rw [length_take]; omega, rfl, by rw [length_take]; omega, ht⟩
   · have := c6S hx; rw [if_neg hx] at ht; simp -implicitDefEqProofs [h0, h1, hpos, hi, hi2, hi3, hi4, hi5, hi6, this, hz]; exact ht
 · obtain rfl : t = [] := eq_nil_of_length_eq_zero (by omega); simp -implicitDefEqProofs [h0, h1]; rw [← ht]; rfl
def J0 (s : Str) : Str := Z3 32 (T0 32 s)
theorem b8Z (s : Str) (hs : length s < 1000000) : Ctr prog 149 [.d (.str s), .d (.str [32])] (.d (.str (J0 s))) := by
 refine fv (fun _ => false) func149 (by kernel_rfl) rfl rfl rfl rfl rfl ?_; by_cases hz : s = []
 · subst hz; simp -implicitDefEqProofs; try rfl
 simp -implicitDefEqProofs [hz]; have h1 : Ctr prog 192 [.d (.str s), .d (.int .u8 32)] (.d (.str (T0 32 s))) := c3f s 32 hs; have h2 : Ctr prog 191 [.d (.str (T0 32 s)), .d (.int .u8 32)] (.d (.str (J0 s))) := c3c (T0 32 s) 32; refine E4 h1 ?_; simp -implicitDefEqProofs [hz]; refine E4 h2 ?_; simp -implicitDefEqProofs [hz]
theorem a9M (s : Str) (hs : length s < 1000000) : Ctr prog 110 [.d (.str s)] (.d (.str (J0 s))) := by
 refine fv (fun _ => false) func110 (by kernel_rfl) rfl rfl rfl rfl rfl ?_; simp -implicitDefEqProofs; refine A3 (b8Z s hs) ?_; simp -implicitDefEqProofs
def a2R (s : Str) : Bool := s.all a1v && decide (s ≠ []) && decide (length s ≤ 256) && decide (J0 s = s)
theorem c7Z {s : Str} {k : Nat} (h : k < length s) (hc : s[k].toNat < 128) : Go.Utf8.decode ⟨s.toArray⟩ k = (s[k].toNat, 1) := by
 have hb : k < (⟨s.toArray⟩ : ByteArray).size := (by simpa [ByteArray.size] using h); have e : (⟨s.toArray⟩ : ByteArray)[k]'hb = s[k] := rfl; have := decode_ascii ⟨s.toArray⟩ k hb (by rw [e]; exact hc); rw [e] at this; exact this
theorem c7K {s : Str} {k : Nat} (h : k < length s) (hc : 128 ≤ s[k].toNat) : 128 ≤ (Go.Utf8.decode ⟨s.toArray⟩ k).1 := by
 have hb : k < (⟨s.toArray⟩ : ByteArray).size := (by simpa [ByteArray.size] using h); have e : (⟨s.toArray⟩ : ByteArray)[k]'hb = s[k] := rfl; exact (decode_high ⟨s.toArray⟩ k hb (by rw [e]; exact hc)).1
theorem b2f (c : UInt8) (s : Str) : length (Z3 c s) ≤ length s := (dropWhile_sublist _).length_le
theorem b1S (c : UInt8) (s : Str) : length (T0 c s) ≤ length s := by
 have := (dropWhile_sublist (fun x : UInt8 => decide (x = c)) (l := s.reverse)).length_le; simpa [T0] using this
theorem c1S {s : Str} (h : 0 < length s) : J0 s = s ↔ s[0] ≠ 32 ∧ s[length s - 1] ≠ 32 := by
 constructor
 · intro e; have h1 := b2f 32 (T0 32 s); have h2 := b1S 32 s; have h3 : length (J0 s) = length s := by rw [e]
   rw [J0] at h3; have hr : s[length s - 1] ≠ 32 := by
     intro h4; rw [a3I h, if_pos h4] at h3 h1; have h5 := b1S 32 (s.take (length s - 1)); rw [length_take] at h5; omega
   refine ⟨fun h4 => ?_, hr⟩; rw [J0, a3I h, if_neg hr] at e; cases s with
   | nil => simp at h
   | cons x t =>
     simp only [getElem_cons_zero] at h4; rw [Z3, dropWhile_cons, if_pos (by simp [h4])] at e; have := b2f 32 t; rw [Z3, e, length_cons] at this; omega
 · rintro ⟨h1, h2⟩; rw [J0, a3I h, if_neg h2]; cases s with
   | nil => rfl
   | cons x t => rw [Z3, dropWhile_cons, if_neg (by simpa using h1)]
theorem a8C (s : Str) : a2R s = S9 s := by
 by_cases h : 0 < length s
 · have hne : s ≠ [] := fun e => by subst e; simp at h
   have hh : s.head? = some s[0] := (by simp [head?_eq_getElem?, h]); have hl : s.getLast? = some s[length s - 1] := by rw [getLast?_eq_getElem?, getElem?_eq_getElem (by omega)]
   rw [Bool.eq_iff_iff]; simp only [a2R, S9, Bool.and_eq_true, decide_eq_true_eq, c1S h, hh, hl, bne_iff_ne, ne_eq, Option.some.injEq]; have : 1 ≤ length s := h; constructor
   · rintro ⟨⟨⟨a, b⟩, c⟩, d, e⟩; exact ⟨⟨⟨⟨this, c⟩, d⟩, e⟩, a⟩
   · rintro ⟨⟨⟨⟨_, c⟩, d⟩, e⟩, a⟩; exact ⟨⟨⟨a, hne⟩, c⟩, d, e⟩
 · obtain rfl : s = [] := eq_nil_of_length_eq_zero (by omega); rfl
theorem a9i (s : Str) (hs : length s < 1000000) : Ctr prog 57 [.d (.str s)] (.d (.bool (a2R s))) := by
 refine fv (fun _ => false) func57 (by kernel_rfl) rfl rfl rfl rfl rfl ?_; simp -implicitDefEqProofs; refine H4 (length s) (fun k τ => τ 0 = .d (.str s) ∧ τ 6 = .iter s k ∧ ∀ x ∈ s.take k, a1v x = true) (by simp) ?_; rintro k τ hk ⟨h0, h6, hall⟩; by_cases hlt : k < length s
 · by_cases ha : s[k].toNat < 128
   · have hd := c7Z hlt ha; by_cases e1 : (s[k].toNat : Int) < 32
     · have e1' : ¬ 32 ≤ (s[k].toNat : Int) := (by omega); simp -implicitDefEqProofs [h0, h6, hlt, hd, e1]; simp [a2R, b3v hlt (show a1v s[k] = false by simp [a1v, e1'])]
     · by_cases e2 : 126 < (s[k].toNat : Int)
       · have e2' : ¬ (s[k].toNat : Int) ≤ 126 := (by omega); simp -implicitDefEqProofs [h0, h6, hlt, hd, e1, e2]; simp [a2R, b3v hlt (show a1v s[k] = false by simp [a1v, e2'])]
       · have e1' : 32 ≤ (s[k].toNat : Int) := (by omega); have e2' : (s[k].toNat : Int) ≤ 126 := (by omega); simp -implicitDefEqProofs [h0, h6, hlt, hd, e1, e2]; exact F0 hlt ⟨by simp [h0], by simp, b5m hlt hall (by simp [a1v, e1', e2'])⟩
   · have hd := c7K hlt (by omega); have e1 : ¬ ((Go.Utf8.decode ⟨s.toArray⟩ k).1 : Int) < 32 := (by omega); have e2 : 126 < ((Go.Utf8.decode ⟨s.toArray⟩ k).1 : Int) := (by omega); have e2' : ¬ (s[k].toNat : Int) ≤ 126 := (by omega); simp -implicitDefEqProofs [h0, h6, hlt, e1, e2]; simp [a2R, b3v hlt (show a1v s[k] = false by simp [a1v, e2'])]
 · rw [ttl (by omega)] at hall; have hall' : s.all a1v = true := all_eq_true.2 hall; by_cases hz : s = []
   · subst hz; simp -implicitDefEqProofs [h0, h6, a2R]
   · by_cases h2 : (length s : Int) ≤ 256
     · have h2' : length s ≤ 256 := (by omega); simp -implicitDefEqProofs [h0, h6, hlt, hz, h2]; refine A3 (a9M s hs) ?_; simp -implicitDefEqProofs [h0, h6, hlt, hz, h2, a2R, hall', h2']
     · have h2' : ¬ length s ≤ 256 := (by omega); simp -implicitDefEqProofs [h0, h6, hlt, hz, h2, a2R, h2']
end Go.Proofs.Tz
namespace Go.Proofs.Tz
open Go.Vw Go.RowKit Go.Proofs
def W9 (c : UInt8) : Bool := decide (c = 44) || decide (c = 61) || decide (c = 43) || decide (c = 92)
def G0 (c : UInt8) : Str → Nat
 | [] => 0
 | [x] => if x = c then 0 else 1
 | x :: y :: r => if x = c then 0 else if x = 92 then 2 + G0 c r else 1 + G0 c (y :: r)
def a1R : Nat → Str → List Str
 | 0, s => [s]
 | n + 1, s => if G0 44 s < s.length then s.take (G0 44 s) :: a1R n (s.drop (G0 44 s + 1)) else [s]
def Q8 (s : Str) : List Str := a1R s.length s
theorem b2d : ∀ (n m : Nat) (s : Str), s.length ≤ n → s.length ≤ m → a1R n s = a1R m s
 | 0, 0, _, _, _ => rfl
 | 0, m + 1, s, h, _ => by
   have : s = [] := length_eq_zero_iff.1 (by omega); subst this; simp [a1R]
 | n + 1, 0, s, _, h => by
   have : s = [] := length_eq_zero_iff.1 (by omega); subst this; simp [a1R]
 | n + 1, m + 1, s, h1, h2 => by
   simp only [a1R]; split
   · rw [b2d n m _ (by simp only [length_drop]; omega) (by simp only [length_drop]; omega)]
   · rfl
theorem a6B {s : Str} (h : G0 44 s < s.length) : Q8 s = s.take (G0 44 s) :: Q8 (s.drop (G0 44 s + 1)) := by
 obtain ⟨n, hn⟩ : ∃ n, s.length = n + 1 := ⟨s.length - 1, by omega⟩; rw [Q8, hn, a1R, if_pos h, Q8, b2d n _ _ (by simp only [length_drop]; omega) (Nat.le_refl _)]
theorem a3O {s : Str} (h : ¬ G0 44 s < s.length) : Q8 s = [s] := by
 rw [Q8]; cases s.length with
 | zero => rfl
 | succ n => rw [a1R, if_neg h]
def Q1 : Str → Option Str
 | [] => some []
 | [x] => if x = 92 then none else if W9 x = true then none else some [x]
 | x :: y :: r => if x = 92 then (if W9 y = true then (Q1 r).map (y :: ·) else none) else if W9 x = true then none else (Q1 (y :: r)).map (x :: ·)
def NoU (c : UInt8) : Str → Prop
 | [] => True
 | [x] => x ≠ c
 | x :: y :: r => x ≠ c ∧ if x = 92 then NoU c r else NoU c (y :: r)
theorem NoU.before {c : UInt8} : ∀ {s : Str}, NoU c (s.take (G0 c s))
 | [] => by simp [NoU]
 | [x] => by
   simp only [G0]; split
   · simp [NoU]
   · rename_i h; simpa [NoU] using h
 | x :: y :: r => by
   simp only [G0]; by_cases h1 : x = c
   · simp [h1, NoU]
   · rw [if_neg h1]; by_cases h2 : x = 92
     · rw [if_pos h2]; have e : 2 + G0 c r = G0 c r + 2 := (by omega); rw [e]; refine ⟨h1, ?_⟩; rw [if_pos h2]; exact NoU.before
     · rw [if_neg h2]; have ih := NoU.before (c := c) (s := y :: r); have e : 1 + G0 c (y :: r) = G0 c (y :: r) + 1 := (by omega); rw [e, take_succ_cons]; generalize take (G0 c (y :: r)) (y :: r) = t at *; cases t with
       | nil => exact h1
       | cons z t => exact ⟨h1, by rw [if_neg h2]; exact ih⟩
abbrev G1 := Str × Str
def P8 (p : G1) : D := .agg [.str p.1, .str p.2]
def K7 (l : List G1) : D := .sl (l.map P8)
def V8 (s : Str) : G1 × Int :=
 if G0 61 s < s.length then
   (match Q1 (J0 (s.drop (G0 61 s + 1))) with
    | none => (([], []), 4)
    | some v => if U0 (J0 (s.take (G0 61 s))) = false then (([], []), 5) else if S9 v = false then (([], []), 8) else ((J0 (s.take (G0 61 s)), v), 0))
 else (([], []), 4)
def S2 (out : List G1) : List Str → List G1 × Int
 | [] => if 8 < out.length then ([], 3) else (out, 0)
 | p :: ps => if (V8 p).2 = 0 then S2 (out ++ [(V8 p).1]) ps else ([], (V8 p).2)
def E7 (s : Str) : List G1 × Int := if s = [] then ([], 0) else S2 [] (Q8 s)
def sqz (prev : UInt8) : Str → Str
 | [] => []
 | x :: r => if x = 32 ∧ prev = 32 then sqz x r else x :: sqz x r
def Y5 (s : Str) : Str := sqz 0 (D7 (J0 s))
def S7 (s : Str) : Str := s.flatMap fun c => if W9 c = true then [92, c] else [c]
def W6 (p : G1) : Str := D7 p.1 ++ 61 :: S7 (Y5 p.2)
def V9 (p : G1) : Int := if U0 p.1 = false then 5 else if S9 p.2 = false then 8 else 0
def a0E : List G1 → Int
 | [] => 0
 | p :: l => if V9 p = 0 then a0E l else V9 p
def a0p (l : List G1) : Int := if a0E l = 0 then (if 8 < l.length then 3 else 0) else a0E l
def H7 (l : List G1) : Str × Int := if a0p l = 0 then (D6 44 (l.map W6), 0) else ([], a0p l)
def M7 (s : Str) : Option (List G1) := if (E7 s).2 = 0 ∧ H7 (E7 s).1 = (s, 0) then some (E7 s).1 else none
def K9 (s : Str) : Bool := (M7 s).isSome
def CU : Str → Prop
 | [] => True
 | [x] => x ≠ 92 ∧ x ≠ 44
 | x :: y :: r => x ≠ 44 ∧ if x = 92 then CU r else CU (y :: r)
theorem CU.next : ∀ {p : Str}, CU p → ∀ (r : Str), G0 44 (p ++ 44 :: r) = p.length
 | [], _, r => by cases r <;> simp [G0]
 | [x], h, r => by
   simp only [CU] at h; have i := CU.next (p := []) trivial r; simp only [nil_append] at i; simp [G0, h.1, h.2, i]
 | x :: y :: t, h, r => by
   simp only [CU] at h; by_cases h2 : x = 92
   · rw [if_pos h2] at h; have i := CU.next h.2 r; simp only [cons_append, G0, if_neg h.1, if_pos h2, i, length_cons]; omega
   · rw [if_neg h2] at h; have i := CU.next h.2 r; simp only [cons_append] at i; simp only [cons_append, G0, if_neg h.1, if_neg h2, i, length_cons]; omega
theorem CU.all : ∀ {p : Str}, CU p → G0 44 p = p.length
 | [], _ => by simp [G0]
 | [x], h => by simp only [CU] at h; simp [G0, h.2]
 | x :: y :: t, h => by
   simp only [CU] at h; by_cases h2 : x = 92
   · rw [if_pos h2] at h; have i := CU.all h.2; simp only [G0, if_neg h.1, if_pos h2, i, length_cons]; omega
   · rw [if_neg h2] at h; have i := CU.all h.2; simp only [G0, if_neg h.1, if_neg h2, i, length_cons]; omega
theorem CU.cons {x : UInt8} {s : Str} (h1 : x ≠ 92) (h2 : x ≠ 44) (h : CU s) : CU (x :: s) := by
 cases s with
 | nil => exact ⟨h1, h2⟩
 | cons y r => exact ⟨h2, by rw [if_neg h1]; exact h⟩
theorem CU.esc {y : UInt8} {s : Str} (h : CU s) : CU (92 :: y :: s) := ⟨by decide, by rw [if_pos rfl]; exact h⟩
theorem CU.escV : ∀ (s : Str), CU (S7 s)
 | [] => trivial
 | c :: s => by
   have ih := CU.escV s; have e : Tz.S7 (c :: s) = (if W9 c = true then [92, c] else [c]) ++ Tz.S7 s := (by simp [Tz.S7]); rw [e]; by_cases h : W9 c = true
   · rw [if_pos h]; exact ih.esc
   · rw [if_neg h]; refine ih.cons ?_ ?_
     · rintro rfl; exact h (by decide)
     · rintro rfl; exact h (by decide)
theorem CU.pre : ∀ {a : Str} {b : Str}, (∀ x ∈ a, x ≠ 92 ∧ x ≠ 44) → CU b → CU (a ++ b)
 | [], b, _, h => h
 | x :: a, b, hx, h => CU.cons (hx x (by simp)).1 (hx x (by simp)).2 (CU.pre (fun y hy => hx y (by simp [hy])) h)
theorem c2S {c : UInt8} (h : a1Q c = true) : c ≠ 92 ∧ c ≠ 44 ∧ c ≠ 61 := by
 refine ⟨?_, ?_, ?_⟩ <;> (rintro rfl; revert h; decide)
theorem c1m {c : UInt8} (h : a1Q c = true) : a1Q (a1B c) = true := by
 by_cases h1 : 65 ≤ (c.toNat : Int) ∧ (c.toNat : Int) ≤ 90
 · have := a4n c h1.1 h1.2; simp only [a1Q, a3u, Bool.or_eq_true, Bool.and_eq_true, decide_eq_true_eq]
   left; left; left
   omega
 · rw [a1B, if_neg h1]; exact h
theorem b7J {p : G1} (h : U0 p.1 = true) : CU (W6 p) := by
 refine CU.pre (fun x hx => ?_) ((CU.escV _).cons (by decide) (by decide)); simp only [D7, mem_map] at hx; obtain ⟨c, hc, rfl⟩ := hx; simp only [U0, Bool.and_eq_true, all_eq_true] at h; have := c2S (c1m (h.2 c hc)); exact ⟨this.1, this.2.1⟩
theorem b7F (p : G1) : W6 p ≠ [] := by simp [W6]
theorem a6b : ∀ {l : List Str}, l ≠ [] → (∀ p ∈ l, CU p) → Q8 (D6 44 l) = l
 | [], h, _ => absurd rfl h
 | [p], _, h => by
   simp only [D6]; exact a3O (by rw [(h p (by simp)).all]; omega)
 | p :: q :: l, _, h => by
   have hp := h p (by simp); have ih := a6b (l := q :: l) (by simp) (fun x hx => h x (by simp at hx ⊢; right; exact hx)); have e : D6 44 (p :: q :: l) = p ++ 44 :: D6 44 (q :: l) := rfl; have hn := hp.next (D6 44 (q :: l)); rw [e, a6B (by rw [hn]; simp), hn]; have e1 : take p.length (p ++ 44 :: D6 44 (q :: l)) = p := (by simp); have e2 : drop (p.length + 1) (p ++ 44 :: D6 44 (q :: l)) = D6 44 (q :: l) := by rw [← drop_drop]; simp
   rw [e1, e2, ih]
theorem b6q {l : List Str} (h : l ≠ []) (hn : ∀ p ∈ l, p ≠ []) : D6 44 l ≠ [] := by
 match l, h with
 | [p], _ => exact hn p (by simp)
 | p :: q :: l, _ => simp [D6]
def NP (p : G1) : Prop := V8 (W6 p) = (p, 0)
theorem a7v {s : Str} {p : G1} (h : V8 s = (p, 0)) : U0 p.1 = true ∧ S9 p.2 = true := by
 unfold V8 at h; split at h
 · split at h
   · simp at h
   · split at h
     · simp at h
     · split at h
       · simp at h
       · rename_i h1 h2
         simp only [Prod.mk.injEq, and_true] at h; obtain ⟨rfl⟩ := h; exact ⟨by simpa using h1, by simpa using h2⟩
 · simp at h
theorem NP.pairE {p : G1} (h : NP p) : V9 p = 0 := by
 have := a7v h; simp [Tz.V9, this.1, this.2]
theorem a3K {l : List G1} : a0E l = 0 ↔ ∀ p ∈ l, V9 p = 0 := by
 induction l with
 | nil => simp [a0E]
 | cons p l ih =>
   simp only [a0E, mem_cons, forall_eq_or_imp]; by_cases h : V9 p = 0
   · simp [h, ih]
   · simp [h]
theorem b1r : ∀ {ps : List Str} {qs out : List G1}, ps.length = qs.length → (∀ i (h1 : i < ps.length) (h2 : i < qs.length), V8 ps[i] = (qs[i], 0)) → S2 out ps = if 8 < (out ++ qs).length then ([], 3) else (out ++ qs, 0)
 | [], [], out, _, _ => by simp [S2]
 | p :: ps, q :: qs, out, hl, h => by
   have h0 := h 0 (by simp) (by simp); simp only [getElem_cons_zero] at h0; have ih := b1r (ps := ps) (qs := qs) (out := out ++ [q]) (by simpa using hl) (fun i h1 h2 => by
     have := h (i + 1) (by simpa using h1) (by simpa using h2); simpa using this)
   simp only [S2, h0, if_true, ih, append_assoc, singleton_append]
 | [], _ :: _, _, hl, _ => by simp at hl
 | _ :: _, [], _, hl, _ => by simp at hl
theorem a6T : ∀ {ps : List Str} {out r : List G1}, S2 out ps = (r, 0) → ∃ qs, r = out ++ qs ∧ ps.length = qs.length ∧ r.length ≤ 8 ∧ ∀ i (h1 : i < ps.length) (h2 : i < qs.length), V8 ps[i] = (qs[i], 0)
 | [], out, r, h => by
   simp only [S2] at h; split at h
   · simp at h
   · rename_i h8
     simp only [Prod.mk.injEq, and_true] at h; subst h; exact ⟨[], by simp, rfl, by omega, fun i h1 => by simp at h1⟩
 | p :: ps, out, r, h => by
   simp only [S2] at h; split at h
   · rename_i h0
     obtain ⟨qs, hr, hl, h8, hq⟩ := a6T h; refine ⟨(V8 p).1 :: qs, by rw [hr]; simp, by simp [hl], h8, fun i h1 h2 => ?_⟩; cases i with
     | zero => simp only [getElem_cons_zero]; rw [← h0]
     | succ i => simpa using hq i (by simpa using h1) (by simpa using h2)
   · rename_i h0
     simp only [Prod.mk.injEq] at h; exact absurd h.2 h0
theorem c3p {l : List G1} (hn : ∀ p ∈ l, NP p) (h8 : l.length ≤ 8) : H7 l = (D6 44 (l.map W6), 0) ∧ M7 (D6 44 (l.map W6)) = some l := by
 have hE : a0E l = 0 := a3K.2 fun p hp => (hn p hp).pairE
 have hf : H7 l = (D6 44 (l.map W6), 0) := by
   have hc : a0p l = 0 := by rw [a0p, if_pos hE, if_neg (by omega)]
   rw [H7, if_pos hc]
 have hp : E7 (D6 44 (l.map W6)) = (l, 0) := by
   unfold E7; by_cases h : l = []
   · subst h; rfl
   · rw [if_neg (b6q (by simpa using h) (by simp only [mem_map]; rintro _ ⟨p, _, rfl⟩; exact b7F p)), a6b (by simpa using h) (by simp only [mem_map]; rintro _ ⟨p, hp, rfl⟩; exact b7J (a7v (hn p hp)).1)]; rw [b1r (qs := l) (by simp) (fun i h1 h2 => by rw [getElem_map]; exact hn l[i] (gmm h2))]; simp only [nil_append]; rw [if_neg (by omega)]
 exact ⟨hf, by rw [M7, hp, if_pos ⟨rfl, hf⟩]⟩
theorem a2F {s : Str} {l : List G1} (h : M7 s = some l) : (∀ p ∈ l, NP p) ∧ l.length ≤ 8 ∧ s = D6 44 (l.map W6) ∧ E7 s = (l, 0) ∧ H7 l = (s, 0) := by
 unfold M7 at h; split at h
 · rename_i hh
   obtain ⟨h0, hf⟩ := hh; simp only [Option.some.injEq] at h; subst h; have hs : s = D6 44 ((E7 s).1.map W6) := by
     unfold H7 at hf; split at hf
     · simp only [Prod.mk.injEq, and_true] at hf; exact hf.symm
     · rename_i hc
       simp only [Prod.mk.injEq] at hf; exact absurd hf.2 hc
   have hchk : a0E (E7 s).1 = 0 ∧ (E7 s).1.length ≤ 8 := by
     unfold H7 at hf; split at hf
     · rename_i hc
       unfold a0p at hc; split at hc
       · rename_i he
         split at hc
         · simp at hc
         · exact ⟨he, by omega⟩
       · rename_i he; exact absurd hc he
     · rename_i hc
       simp only [Prod.mk.injEq] at hf; exact absurd hf.2 hc
   have hP : E7 s = ((E7 s).1, 0) := by rw [← h0]
   refine ⟨fun p hp => ?_, hchk.2, hs, hP, hf⟩; generalize hl : (E7 s).1 = l at *; by_cases hnil : l = []
   · subst hnil; simp at hp
   · have hnm : ∀ q ∈ l, U0 q.1 = true := fun q hq => by
       have := (a3K.1 hchk.1) q hq; unfold V9 at this; split at this
       · simp at this
       · rename_i h1; simpa using h1
     have hsn : s ≠ [] := by
       rw [hs]; exact b6q (by simpa using hnil) (by simp only [mem_map]; rintro _ ⟨p, _, rfl⟩; exact b7F p)
     have hpc : Q8 s = l.map W6 := by
       rw [hs]; exact a6b (by simpa using hnil) (by simp only [mem_map]; rintro _ ⟨q, hq, rfl⟩; exact b7J (hnm q hq))
     rw [E7, if_neg hsn, hpc] at hP; obtain ⟨qs, hr, hlen, _, hq⟩ := a6T hP; simp only [nil_append] at hr; subst hr; obtain ⟨i, hi, rfl⟩ := getElem_of_mem hp; have := hq i (by simpa using hi) hi; rw [getElem_map] at this; exact this
 · cases h
theorem b4x {s t : Str} {l : List G1} (h1 : M7 s = some l) (h2 : M7 t = some l) : s = t := by rw [(a2F h1).2.2.1, (a2F h2).2.2.1]
theorem c0u {s t : Str} {l m : List G1} (h1 : M7 s = some l) (h2 : M7 t = some m) {n : List G1} (hn : ∀ p ∈ n, p ∈ l ∨ p ∈ m) (h8 : n.length ≤ 8) : H7 n = (D6 44 (n.map W6), 0) ∧ M7 (D6 44 (n.map W6)) = some n :=
 c3p (fun p hp => by
   rcases hn p hp with h | h
   · exact (a2F h1).1 p h
   · exact (a2F h2).1 p h) h8
def a3V (s : Str) : Nat := ((M7 s).getD []).length
abbrev Chg := Csn × Int × Str × Str × Str × Str
def A7 (c : Chg) : D := .agg [B8 c.1, .int .i64 c.2.1, .str c.2.2.1, .str c.2.2.2.1, .str c.2.2.2.2.1, .str c.2.2.2.2.2]
def F9 (l : List Chg) : D := .sl (l.map A7)
structure S6 (c : Chg) : Prop where
 id : length c.2.2.1 < 900000
 name : length c.2.2.2.1 < 900000
 attr : length c.2.2.2.2.1 < 900000
 value : length c.2.2.2.2.2 < 900000
def F6 (op : Int) : Bool := decide (op = 1) || decide (op = 3)
def F1 (op : Int) : Bool := decide (op = 4) || decide (op = 5)
def J4 (c : Chg) : Bool := (!F6 c.2.1 && decide (c.2.2.2.1 ≠ [])) || (!F1 c.2.1 && (decide (c.2.2.2.2.1 ≠ []) || decide (c.2.2.2.2.2 ≠ [])))
def J6 (c : Chg) : Bool := (F6 c.2.1 && (decide (c.2.2.2.1 = []) || !K9 c.2.2.2.1)) || (F1 c.2.1 && (!U0 c.2.2.2.2.1 || decide (D7 c.2.2.2.2.1 ≠ c.2.2.2.2.1)))
def I1 (c : Chg) : Int :=
 if U6 c.1 = false ∨ c.2.1 < 1 ∨ 5 < c.2.1 then 2
 else if (P5 c.2.2.1).2 ≠ 0 ∨ J4 c = true then 4
 else if J6 c = true then 5
 else if F1 c.2.1 = true ∧ S9 c.2.2.2.2.2 = false then 8 else 0
abbrev o1W : Str := [99, 114, 101, 97, 116, 101]
abbrev o2W : Str := [114, 101, 109, 111, 118, 101]
abbrev o3W : Str := [114, 101, 110, 97, 109, 101]
abbrev o4W : Str := [112, 117, 116]
abbrev o5W : Str := [100, 114, 111, 112]
def opW (x : Int) : Str := if x = 1 then o1W else if x = 2 then o2W else if x = 3 then o3W else if x = 4 then o4W else if x = 5 then o5W else []
def opV (w : Str) : Int := if w = o1W then 1 else if w = o2W then 2 else if w = o3W then 3 else if w = o4W then 4 else if w = o5W then 5 else 0
theorem c6m {x : Int} (h1 : 1 ≤ x) (h5 : x ≤ 5) : opV (opW x) = x := by
 have : x = 1 ∨ x = 2 ∨ x = 3 ∨ x = 4 ∨ x = 5 := (by omega); rcases this with rfl | rfl | rfl | rfl | rfl <;> decide
def a2H (c : Chg) : List Str :=
 if F6 c.2.1 = true then [opW c.2.1, H6 c.1, c.2.2.1, R7 c.2.2.2.1]
 else if F1 c.2.1 = true then [opW c.2.1, H6 c.1, c.2.2.1, R7 c.2.2.2.2.1, R7 c.2.2.2.2.2]
 else [opW c.2.1, H6 c.1, c.2.2.1]
def a0a (c : Chg) : Str := D6 32 (a2H c)
def H9 (c : Chg) : Str × Int := if I1 c = 0 then (a0a c, 0) else ([], I1 c)
def c3K (s : Str) (e : Int) (c : Chg) : Option Chg := if e = 0 ∧ I1 c = 0 ∧ a0a c = s then some c else none
def b8p (s : Str) : List Str → Option Chg
 | [a, b, i] => c3K s (P5 b).2 ((P5 b).1, opV a, i, [], [], [])
 | [a, b, i, n] => c3K s (P5 b).2 ((P5 b).1, opV a, i, (a6y n).1, [], [])
 | [a, b, i, x, y] => c3K s (P5 b).2 ((P5 b).1, opV a, i, [], (a6y x).1, (a6y y).1)
 | _ => none
def c4S (s : Str) : Option Chg := b8p s (a1i 32 s)
def M6 : Chg := ((0, 0, 0), 0, [], [], [], [])
structure OkC (c : Chg) : Prop where
 num : U6 c.1 = true
 op1 : 1 ≤ c.2.1
 op5 : c.2.1 ≤ 5
 id : (P5 c.2.2.1).2 = 0
 used : J4 c = false
 name : J6 c = false
 value : ¬ (F1 c.2.1 = true ∧ S9 c.2.2.2.2.2 = false)
theorem a1K {c : Chg} : I1 c = 0 ↔ OkC c := by
 unfold I1; constructor
 · intro h; split at h
   · cases h
   · rename_i h1
     split at h
     · cases h
     · rename_i h2
       split at h
       · cases h
       · rename_i h3
         split at h
         · cases h
         · rename_i h4
           simp only [not_or, Bool.not_eq_false, Int.not_lt] at h1; simp only [not_or, Classical.not_not, Bool.not_eq_true, ne_eq] at h2; exact ⟨h1.1, h1.2.1, h1.2.2, h2.1, h2.2, by simpa using h3, h4⟩
 · rintro ⟨a, b, c', d, e, f, g⟩; rw [if_neg (by rw [a]; simp; omega), if_neg (by rw [d, e]; simp), if_neg (by rw [f]; simp), if_neg g]
theorem a6Y : (32 : UInt8) ∉ J9 ∧ (10 : UInt8) ∉ J9 := by decide
theorem d0c {s : Str} (h : (P5 s).2 = 0) {d : UInt8} (hd : d = 32 ∨ d = 10) : d ∉ s := by
 have h1 : P5 s = ((P5 s).1, 0) := by rw [← h]
 have h2 := (a7R h1).1; rw [← h2]; rcases hd with rfl | rfl
 · exact a4x a6Y.1 (by decide) (by decide)
 · exact a4x a6Y.2 (by decide) (by decide)
theorem c7e {x : Int} {d : UInt8} (hd : d = 32 ∨ d = 10) : d ∉ opW x := by
 unfold opW; rcases hd with rfl | rfl
 all_goals
   split
   · decide
   · split
     · decide
     · split
       · decide
       · split
         · decide
         · split <;> decide
theorem c2n {c : Chg} (h : OkC c) {d : UInt8} (hd : d = 32 ∨ d = 10) : ∀ w ∈ a2H c, d ∉ w := by
 have hf : d ∉ H6 c.1 := by
   rcases hd with rfl | rfl
   · exact a4x a6Y.1 (by decide) (by decide)
   · exact a4x a6Y.2 (by decide) (by decide)
 have hi := d0c h.id hd; have ho := c7e (x := c.2.1) hd; have he : ∀ s, d ∉ R7 s := fun s => by
   rcases hd with rfl | rfl
   · exact c0L s
   · exact c2A s
 unfold a2H; intro w hw; split at hw
 · simp only [mem_cons, not_mem_nil, or_false] at hw; rcases hw with rfl | rfl | rfl | rfl
   · exact ho
   · exact hf
   · exact hi
   · exact he _
 · split at hw
   · simp only [mem_cons, not_mem_nil, or_false] at hw; rcases hw with rfl | rfl | rfl | rfl | rfl
     · exact ho
     · exact hf
     · exact hi
     · exact he _
     · exact he _
   · simp only [mem_cons, not_mem_nil, or_false] at hw; rcases hw with rfl | rfl | rfl
     · exact ho
     · exact hf
     · exact hi
theorem b1y (s : Str) : (a6y (R7 s)).1 = s := by rw [b7i (c2y s)]
theorem c0U (c : Chg) : a2H c ≠ [] := by unfold a2H; split <;> (try split) <;> simp
theorem b1v {c : Chg} (h : I1 c = 0) : c4S (a0a c) = some c := by
 have ho := a1K.1 h; have hs := b2z (c := 32) (c0U c) (c2n ho (.inl rfl)); have hp := b5K ho.num; have hv := c6m ho.op1 ho.op5; have hu := ho.used; have hl : a0a c = D6 32 (a2H c) := rfl; rw [c4S]; rw [← hl] at hs; rw [hs]; obtain ⟨n, op, id, nm, at_, va⟩ := c; simp only [J4, Bool.or_eq_false_iff, Bool.and_eq_false_iff, Bool.not_eq_false', decide_eq_false_iff_not, Classical.not_not, ne_eq] at hu; simp only at hp hv; unfold a2H; by_cases h1 : F6 op = true
 · have h2 : F1 op = false := by
     simp only [F6, F1, Bool.or_eq_true, decide_eq_true_eq, Bool.or_eq_false_iff, decide_eq_false_iff_not] at h1 ⊢; omega
   obtain ⟨e1, e2⟩ : at_ = [] ∧ va = [] := by
     rcases hu.2 with e | e
     · rw [h2] at e; cases e
     · exact e
   subst e1; subst e2; simp only [h1, if_true, b8p, hp, hv, b1y]; exact if_pos ⟨rfl, h, rfl⟩
 · have h1' : F6 op = false := (by simpa using h1); obtain rfl : nm = [] := by
     rcases hu.1 with e | e
     · rw [h1'] at e; cases e
     · exact e
   by_cases h2 : F1 op = true
   · simp only [h1', h2, Bool.false_eq_true, if_false, if_true, b8p, hp, hv, b1y]; exact if_pos ⟨rfl, h, rfl⟩
   · have h2' : F1 op = false := (by simpa using h2); obtain ⟨e1, e2⟩ : at_ = [] ∧ va = [] := by
       rcases hu.2 with e | e
       · rw [h2'] at e; cases e
       · exact e
     subst e1; subst e2; simp only [h1', h2', Bool.false_eq_true, if_false, b8p, hp, hv]; exact if_pos ⟨rfl, h, rfl⟩
theorem c1y {c d : Chg} (h1 : I1 c = 0) (h2 : I1 d = 0) (h : a0a c = a0a d) : c = d := by
 have a := b1v h1; rw [h, b1v h2] at a; exact (Option.some.inj a).symm
structure c0Z (S R : List Chg) : Prop where
 asc : R.Pairwise fun a b => X2 a.1 b.1 < 0
 mem : ∀ r, r ∈ R ↔ (r ∈ S ∧ I1 r = 0 ∧ ∀ r' ∈ S, I1 r' = 0 → r'.1 = r.1 → a0a r ≤ a0a r')
theorem c0Z.has {S R : List Chg} (h : c0Z S R) : ∀ {r : Chg}, r ∈ S → I1 r = 0 → ∃ x ∈ R, x.1 = r.1 ∧ a0a x ≤ a0a r := by
 have key : ∀ (T : List Chg) (r : Chg), (∀ t ∈ T, t ∈ S) → r ∈ S → I1 r = 0 → ∃ x ∈ S, I1 x = 0 ∧ x.1 = r.1 ∧ a0a x ≤ a0a r ∧ ∀ t ∈ T, I1 t = 0 → t.1 = r.1 → a0a x ≤ a0a t := by
   intro T
   induction T with
   | nil => intro r _ hr hc; exact ⟨r, hr, hc, rfl, List.le_refl _, by simp⟩
   | cons t T ih =>
     intro r hT hr hc; obtain ⟨x, hx, hxc, hx1, hxl, hxm⟩ := ih r (fun y hy => hT y (by simp [hy])) hr hc; by_cases ht : I1 t = 0 ∧ t.1 = r.1
     · rcases List.le_total (a0a x) (a0a t) with hle | hle
       · exact ⟨x, hx, hxc, hx1, hxl, fun y hy hyc hy1 => by
           rcases mem_cons.1 hy with rfl | hy
           · exact hle
           · exact hxm y hy hyc hy1⟩
       · exact ⟨t, hT t (by simp), ht.1, ht.2, List.le_trans hle hxl, fun y hy hyc hy1 => by
           rcases mem_cons.1 hy with rfl | hy
           · exact List.le_refl _
           · exact List.le_trans hle (hxm y hy hyc hy1)⟩
     · exact ⟨x, hx, hxc, hx1, hxl, fun y hy hyc hy1 => by
         rcases mem_cons.1 hy with rfl | hy
         · exact absurd ⟨hyc, hy1⟩ ht
         · exact hxm y hy hyc hy1⟩
 intro r hr hc; obtain ⟨x, hx, hxc, hx1, hxl, hxm⟩ := key S r (fun _ h => h) hr hc; exact ⟨x, (h.mem x).2 ⟨hx, hxc, fun t ht htc ht1 => hxm t ht htc (by rw [ht1, hx1])⟩, hx1, hxl⟩
theorem c4Y (a b : UInt8) : ((a.toNat : Int) = (b.toNat : Int)) ↔ a = b := by
 constructor
 · intro h; have : a.toNat = b.toNat := (by omega); exact UInt8.toNat_inj.1 this
 · rintro rfl; rfl
theorem c2X (c : UInt8) : W9 c = (decide ((c.toNat : Int) = 44) || decide ((c.toNat : Int) = 61) || decide ((c.toNat : Int) = 43) || decide ((c.toNat : Int) = 92)) := by
 have h := fun k (hk : k < 256) => Z7 c k hk
 have h1 := h 44 (by omega); have h2 := h 61 (by omega); have h3 := h 43 (by omega); have h4 := h 92 (by omega); simp only [W9]; congr 1
 · congr 1
   · congr 1
     · exact decide_eq_decide.2 h1.symm
     · exact decide_eq_decide.2 h2.symm
   · exact decide_eq_decide.2 h3.symm
 · exact decide_eq_decide.2 h4.symm
theorem a0s (c : UInt8) : Ctr prog 170 [.d (u8 c)] (.d (.bool (W9 c))) := by
 refine fv (fun _ => false) func170 (by kernel_rfl) rfl rfl rfl rfl rfl ?_; rw [c2X]; by_cases h1 : (c.toNat : Int) = 44 <;> by_cases h2 : (c.toNat : Int) = 61 <;> by_cases h3 : (c.toNat : Int) = 43 <;> simp -implicitDefEqProofs [u8, h1, h2, h3]
theorem a6K {c : UInt8} {s : Str} {k : Nat} (h : k < s.length) : G0 c (s.drop k) = if s[k] = c then 0 else if s[k] = 92 then (if k + 1 < s.length then 2 + G0 c (s.drop (k + 2)) else 1) else 1 + G0 c (s.drop (k + 1)) := by
 rw [a2I h]; by_cases h2 : k + 1 < s.length
 · rw [a2I h2, G0]; simp only [if_pos h2]
 · have e : s.drop (k + 1) = [] := drop_eq_nil_of_le (by omega); rw [e, G0]; simp only [if_neg h2, G0]; by_cases h3 : s[k] = 92 <;> simp [h3]
def a1H (c : UInt8) (s : Str) : Int := if G0 c s < s.length then (G0 c s : Int) else -1
def NxI (c : UInt8) (s : Str) (k : Nat) : Prop := (k ≤ s.length → G0 c s = k + G0 c (s.drop k)) ∧ (s.length < k → G0 c s = s.length)
theorem NxI.zero (c : UInt8) (s : Str) : NxI c s 0 := ⟨fun _ => by simp, fun h => by omega⟩
theorem NxI.hit {c : UInt8} {s : Str} {k : Nat} (h : NxI c s k) (hk : k < s.length) (e : s[k] = c) : G0 c s = k := by
 rw [h.1 (by omega), a6K hk, if_pos e]; rfl
theorem NxI.one {c : UInt8} {s : Str} {k : Nat} (h : NxI c s k) (hk : k < s.length) (e : s[k] ≠ c) (e2 : s[k] ≠ 92) : NxI c s (k + 1) := by
 refine ⟨fun _ => ?_, fun h => by omega⟩; rw [h.1 (by omega), a6K hk, if_neg e, if_neg e2]; omega
theorem NxI.two {c : UInt8} {s : Str} {k : Nat} (h : NxI c s k) (hk : k < s.length) (e : s[k] ≠ c) (e2 : s[k] = 92) : NxI c s (k + 2) := by
 have h1 := h.1 (by omega); rw [a6K hk, if_neg e, if_pos e2] at h1; refine ⟨fun h2 => ?_, fun h2 => ?_⟩
 · rw [h1, if_pos (by omega)]; omega
 · rw [h1, if_neg (by omega)]; omega
theorem NxI.over {c : UInt8} {s : Str} {k : Nat} (h : NxI c s k) (hk : ¬ k < s.length) : G0 c s = s.length := by
 by_cases e : k = s.length
 · rw [h.1 (by omega), e]; simp [G0]
 · exact h.2 (by omega)
theorem b3Q (s : Str) (c : UInt8) (hs : length s < 1000000) : Ctr prog 211 [.d (.str s), .d (u8 c)] (.d (.int .i64 (a1H c s))) := by
 refine fv (fun _ => false) func211 (by kernel_rfl) rfl rfl rfl rfl rfl ?_; simp -implicitDefEqProofs [u8]; refine H4 (length s + 1) (fun k τ => τ 0 = .d (.str s) ∧ τ 1 = .d (.int .u8 c.toNat) ∧ τ 5 = .d (.int .i64 k) ∧ NxI c s k) ⟨by simp, by simp, by simp, .zero c s⟩ ?_; rintro k τ hk ⟨h0, h1, h5, hI⟩; by_cases hlt : k < length s
 · by_cases h2 : s[k] = c
   · have h2' : (s[k].toNat : Int) = c.toNat := (c4Y _ _).2 h2; have hn := hI.hit hlt h2; simp -implicitDefEqProofs [h0, h1, h5, hlt, h2']; rw [a1H, hn, if_pos hlt]
   · have h2' : ¬ (s[k].toNat : Int) = c.toNat := fun e => h2 ((c4Y _ _).1 e)
     by_cases h3 : s[k] = 92
     · have h3' : (s[k].toNat : Int) = 92 := (Z7 s[k] 92 (by omega)).2 h3; have h9 : ¬ (92 : Int) = c.toNat := by rw [← h3']; exact h2'
       simp -implicitDefEqProofs [h0, h1, h5, hlt, h2', h3', h9]; (repeat refine ai (by omega) ?_); exact c2l (k' := k + 2) (by omega) (by omega) ⟨by simp [h0], by simp [h1], by simp; omega, hI.two hlt h2 h3⟩
     · have h3' : ¬ (s[k].toNat : Int) = 92 := fun e => h3 ((Z7 s[k] 92 (by omega)).1 e)
       simp -implicitDefEqProofs [h0, h1, h5, hlt, h2', h3']; (repeat refine ai (by omega) ?_); exact F0 (by omega) ⟨by simp [h0], by simp [h1], by simp, hI.one hlt h2 h3⟩
 · have hn := hI.over hlt; have hlt' : ¬ (k : Int) < (length s : Int) := (by omega); simp -implicitDefEqProofs [h0, h1, h5, hlt']; rw [a1H, hn, if_neg (by omega)]
def PcI (s : Str) (m : Nat) (τ : St) : Prop := ∃ (rest : Str) (out : List Str), m = length rest ∧ τ 0 = .d (.str rest) ∧ τ 3 = .own true 9 (out.map .str) ∧ length rest ≤ length s ∧ out.length + length rest ≤ length s ∧ Q8 s = out ++ Q8 rest
theorem b8o (s : Str) (hs : length s < 1000000) : Ctr prog 183 [.d (.str s)] (.own true 9 ((Q8 s).map .str)) := by
 refine fv (fun i => decide (i < 1000000)) func183 (by kernel_rfl) rfl rfl rfl rfl rfl ?_; simp -implicitDefEqProofs; refine b2s (PcI s) (length s) ⟨s, [], rfl, by simp, by simp, by omega, by simp, by simp⟩ ?_; rintro m τ ⟨rest, out, rfl, h0, h3, hr, ho, hp⟩; simp -implicitDefEqProofs [h0, h3]; refine A3 (b3Q rest 44 (by omega)) ?_; by_cases hlt : G0 44 rest < rest.length
 · have hx : a1H 44 rest = (G0 44 rest : Int) := by rw [a1H, if_pos hlt]
   have hp2 := a6B hlt; generalize hj : G0 44 rest = j at *; have i0 : ¬ (j : Int) < 0 := (by omega); have i1 : (0 : Int) ≤ (j : Int) + 1 := (by omega); have j1 : ((j : Int) + 1).toNat = j + 1 := (by omega); simp -implicitDefEqProofs [h0, h3, hx, i0, i1, j1]; (repeat refine ai (by omega) ?_); refine ⟨length (rest.drop (j + 1)), by simp; omega, rest.drop (j + 1), out ++ [rest.take j], rfl, ?_, by simp, by simp; omega, by simp; omega, by rw [hp, hp2]; simp⟩; simp; exact ttl (by simp)
 · have hx : a1H 44 rest = -1 := by rw [a1H, if_neg hlt]
   simp -implicitDefEqProofs [h0, h3, hx]; (repeat refine ai (by omega) ?_); rw [hp, a3O hlt]; simp
theorem a2C (s : Str) : (J0 s).length ≤ s.length := by
 have h1 : (Z3 32 (T0 32 s)).length ≤ (T0 32 s).length := (dropWhile_sublist _).length_le; have h2 : (T0 32 s).length ≤ s.length := by
   rw [T0, length_reverse]; have := (dropWhile_sublist (l := s.reverse) fun x => decide (x = 32)).length_le; simpa using this
 rw [J0]; omega
theorem b7o (s : Str) : (Z3 32 s).head? ≠ some 32 := by
 induction s with
 | nil => simp [Z3]
 | cons x s ih =>
   rw [Z3, dropWhile_cons]; by_cases hx : x = 32
   · rw [if_pos (by simp [hx])]; exact ih
   · rw [if_neg (by simp [hx])]; simpa using hx
theorem c6E (c : UInt8) : a1B c = 32 ↔ c = 32 := by
 constructor
 · intro h; by_cases h1 : 65 ≤ (c.toNat : Int) ∧ (c.toNat : Int) ≤ 90
   · have := a4n c h1.1 h1.2; rw [h] at this; have h3 : ((32 : UInt8).toNat : Int) = 32 := rfl; omega
   · rw [a1B, if_neg h1] at h; exact h
 · rintro rfl; decide
theorem c4n {s : Str} (h : (D7 (J0 s)).head? = some 32) : False := by
 have := b7o (T0 32 s); rw [← J0] at this; cases hq : J0 s with
 | nil => rw [hq] at h; simp [D7] at h
 | cons x t =>
   rw [hq] at h this; simp only [D7, map_cons, head?_cons, Option.some.injEq] at h; exact this (by simp [(c6E x).1 h])
theorem b0Z : ∀ (a : Str) (p x : UInt8), sqz p (a ++ [x]) = sqz p a ++ (if x = 32 ∧ a.getLast?.getD p = 32 then [] else [x])
 | [], p, x => by by_cases h : x = 32 ∧ p = 32 <;> simp [sqz, h]
 | y :: a, p, x => by
   have ih1 := b0Z a y x; have ih2 := b0Z a p x; have hl : (y :: a).getLast?.getD p = a.getLast?.getD y := by rw [getLast?_cons]; rfl
   rw [hl]; simp only [cons_append, sqz]; by_cases h : y = 32 ∧ p = 32
   · obtain ⟨rfl, rfl⟩ := h; simp only [and_self, if_true]; exact ih1
   · rw [if_neg h, if_neg h, ih1]; rfl
theorem a9F : ∀ (a : Str) (p : UInt8), (sqz p a).length ≤ a.length
 | [], _ => by simp [sqz]
 | y :: a, p => by
   have h1 := a9F a p; have h2 := a9F a y; simp only [sqz]; split <;> simp <;> omega
theorem b4n (s : Str) : (Y5 s).length ≤ s.length := by
 have h1 := a9F (D7 (J0 s)) 0; rw [T8] at h1; have := a2C s; rw [Y5]; omega
theorem b5s {t : Str} {k : Nat} (h : k ≤ t.length) (h0 : 0 < k) (p : UInt8) : (t.take k).getLast?.getD p = t[k - 1]'(by omega) := by
 rw [getLast?_eq_getElem?, length_take, Nat.min_eq_left h, getElem?_take, if_pos (by omega), getElem?_eq_getElem (by omega)]; rfl
theorem b1a {t : Str} {k : Nat} (h : k < t.length) (hh : t.head? ≠ some 32) : sqz 0 (t.take (k + 1)) = sqz 0 (t.take k) ++ (if t[k] = 32 ∧ (∀ (h0 : 0 < k), t[k - 1] = 32) then [] else [t[k]]) := by
 rw [G9 h, b0Z]; congr 1
 by_cases h0 : 0 < k
 · rw [b5s (by omega) h0]; by_cases h1 : t[k] = 32 ∧ t[k - 1] = 32
   · rw [if_pos h1, if_pos ⟨h1.1, fun _ => h1.2⟩]
   · rw [if_neg h1, if_neg fun e => h1 ⟨e.1, e.2 h0⟩]
 · obtain rfl : k = 0 := by omega
   have h2 : t[0] ≠ 32 := by
     intro e; apply hh
     cases t with
     | nil => simp at h
     | cons x t => simpa using e
   rw [if_neg (fun e => h2 e.1), if_neg (fun e => h2 e.1)]
theorem c1Y {t : Str} {k : Nat} (h : k < t.length) (hh : t.head? ≠ some 32) (e : t[k] ≠ 32) : sqz 0 (t.take (k + 1)) = sqz 0 (t.take k) ++ [t[k]] := by
 rw [b1a h hh, if_neg fun q => e q.1]
theorem c0v {t : Str} {k : Nat} (h : k < t.length) (hh : t.head? ≠ some 32) (h0 : 0 < k) (e : t[k - 1] ≠ 32) : sqz 0 (t.take (k + 1)) = sqz 0 (t.take k) ++ [t[k]] := by
 rw [b1a h hh, if_neg fun q => e (q.2 h0)]
theorem c0j {t : Str} {k : Nat} (h : k < t.length) (hh : t.head? ≠ some 32) (e : t[k] = 32) (h0 : 0 < k) (e2 : t[k - 1] = 32) : sqz 0 (t.take (k + 1)) = sqz 0 (t.take k) := by
 rw [b1a h hh, if_pos ⟨e, fun _ => e2⟩, append_nil]
theorem c4A (s : Str) (hs : length s < 1000000) : Ctr prog 169 [.d (.str s)] (.d (.str (Y5 s))) := by
 refine fv (fun _ => false) func169 (by kernel_rfl) rfl rfl rfl rfl rfl ?_; have ht := a2C s; have hl : length (D7 (J0 s)) < 1000000 := by rw [T8]; omega
 have hh : (D7 (J0 s)).head? ≠ some 32 := fun h => c4n h
 have hf : Y5 s = sqz 0 (D7 (J0 s)) := rfl; have c2 := a2V (J0 s) (by omega); simp -implicitDefEqProofs; refine A3 (a9M s hs) ?_; simp -implicitDefEqProofs; refine A3 c2 ?_; clear c2; rw [hf]; generalize D7 (J0 s) = t at *; simp -implicitDefEqProofs; refine H4 t.length (fun k τ => τ 3 = .d (.str t) ∧ τ 10 = .d (.int .i64 t.length) ∧ τ 11 = .d (.int .i64 k) ∧ τ 4 = .own false 5 (D5 (sqz 0 (t.take k)))) ⟨by simp, by simp, by simp, by simp [sqz, D5]⟩ ?_; rintro k τ hk ⟨h3, h10, h11, h4⟩; by_cases hlt : k < length t
 · have hq := a9F (t.take k) 0; rw [length_take] at hq; by_cases e1 : t[k] = 32
   · have e1' : (t[k].toNat : Int) = 32 := (Z7 _ 32 (by omega)).2 e1; have h0 : 0 < k := by
       rcases Nat.eq_zero_or_pos k with rfl | h
       · exfalso
         apply hh
         cases t with
         | nil => simp at hlt
         | cons x t => simpa using e1
       · exact h
     have i1 : (0 : Int) ≤ (k : Int) - 1 := (by omega); have j1 : ((k : Int) - 1).toNat = k - 1 := (by omega); have l1 : k - 1 < length t := (by omega); by_cases e2 : t[k - 1] = 32
     · have e2' : (t[k - 1].toNat : Int) = 32 := (Z7 _ 32 (by omega)).2 e2; have hs3 := c0j hlt hh e1 h0 e2; simp -implicitDefEqProofs [h3, h10, h11, h4, hlt, e1', e2', i1, j1, l1]; (repeat refine ai (by omega) ?_); refine F0 hlt ⟨by simp [h3], by simp [h10], by simp, by simp [hs3, h4]⟩
     · have e2' : ¬ (t[k - 1].toNat : Int) = 32 := fun e => e2 ((Z7 _ 32 (by omega)).1 e)
       have hs3 := c0v hlt hh h0 e2; simp -implicitDefEqProofs [h3, h10, h11, h4, hlt, e1', e2', i1, j1, l1]; (repeat refine And.intro (by first | omega | (simp [D5]; omega)) ?_); refine F0 hlt ⟨by simp [h3], by simp [h10], by simp, by simp [hs3, D5, e1']⟩
   · have e1' : ¬ (t[k].toNat : Int) = 32 := fun e => e1 ((Z7 _ 32 (by omega)).1 e)
     have hs3 := c1Y hlt hh e1; simp -implicitDefEqProofs [h3, h10, h11, h4, hlt, e1']; (repeat refine And.intro (by first | omega | (simp [D5]; omega)) ?_); refine F0 hlt ⟨by simp [h3], by simp [h10], by simp, by simp [hs3, D5]⟩
 · rw [ttl (by omega)] at h4; simp -implicitDefEqProofs [h3, h10, h11, h4, hlt]
theorem b8R {s : Str} {k : Nat} (h : k + 1 < s.length) (e : s[k] = 92) : Q1 (s.drop k) = if W9 s[k + 1] = true then (Q1 (s.drop (k + 2))).map (s[k + 1] :: ·) else none := by
 rw [a2I (show k < s.length by omega), a2I h, Q1, if_pos e]
theorem b8t {s : Str} {k : Nat} (h : k < s.length) (h2 : ¬ k + 1 < s.length) (e : s[k] = 92) : Q1 (s.drop k) = none := by
 rw [a2I h, drop_eq_nil_of_le (by omega), Q1, if_pos e]
theorem b9l {s : Str} {k : Nat} (h : k < s.length) (e : s[k] ≠ 92) : Q1 (s.drop k) = if W9 s[k] = true then none else (Q1 (s.drop (k + 1))).map (s[k] :: ·) := by
 rw [a2I h]; by_cases h2 : k + 1 < s.length
 · rw [a2I h2, Q1, if_neg e]
 · rw [drop_eq_nil_of_le (by omega)]; simp only [Q1, if_neg e]; rfl
theorem a7e : ∀ (n : Nat) (s : Str), s.length ≤ n → ∀ v, Q1 s = some v → v.length ≤ s.length
 | _, [], _, v, h => by simp only [Q1, Option.some.injEq] at h; subst h; simp
 | 0, x :: s, hn, _, _ => by simp at hn
 | n + 1, [x], _, v, h => by
   simp only [Q1] at h; split at h
   · cases h
   · split at h
     · cases h
     · simp only [Option.some.injEq] at h; subst h; simp
 | n + 1, x :: y :: r, hn, v, h => by
   simp only [length_cons] at hn; simp only [Q1] at h; split at h
   · split at h
     · obtain ⟨w, hw, rfl⟩ := Option.map_eq_some_iff.1 h; have := a7e n r (by omega) w hw; simp only [length_cons]; omega
     · cases h
   · split at h
     · cases h
     · obtain ⟨w, hw, rfl⟩ := Option.map_eq_some_iff.1 h; have := a7e n (y :: r) (by simp only [length_cons]; omega) w hw; simp only [length_cons] at this ⊢; omega
def a6g (o : Option Str) : Str × Bool := match o with
 | some v => (v, true)
 | none => ([], false)
def VaI (f : Str → Option Str) (s : Str) (k : Nat) (out : Str) : Prop := f s = (f (s.drop k)).map (out ++ ·) ∧ out.length ≤ k
theorem VaI.zero {f : Str → Option Str} (s : Str) : VaI f s 0 [] := ⟨by simp, by simp⟩
theorem VaI.one {f : Str → Option Str} {s : Str} {k j : Nat} {out : Str} {x : UInt8} (h : VaI f s k out) (hj : k < j) (e : f (s.drop k) = (f (s.drop j)).map (x :: ·)) : VaI f s j (out ++ [x]) := by
 refine ⟨?_, ?_⟩
 · rw [h.1, e]; cases f (s.drop j) <;> simp
 · have := h.2; simp; omega
theorem VaI.none {f : Str → Option Str} {s : Str} {k : Nat} {out : Str} (h : VaI f s k out) (e : f (s.drop k) = Option.none) : f s = Option.none := by rw [h.1, e]; rfl
theorem VaI.all {f : Str → Option Str} {s : Str} {k : Nat} {out : Str} (h : VaI f s k out) (hk : ¬ k < s.length) (e : f [] = some []) : f s = some out := by
 rw [h.1, drop_eq_nil_of_le (by omega), e]; simp
theorem c1e (s : Str) (hs : length s < 1000000) : Ctr prog 212 [.d (.str s)] (.tup [.d (.str (a6g (Q1 s)).1), .d (.bool (a6g (Q1 s)).2)]) := by
 refine L9 (rv := .tmp 2) (rs := [.tmp 3]) (r := .d (.str (a6g (Q1 s)).1)) (ys := [.d (.bool (a6g (Q1 s)).2)]) (fun i => i == 1000004 || i == 5000038 || i == 5000039) (by kernel_rfl) func212 (by kernel_rfl) rfl rfl (by simp) (nbl rfl) (by kernel_rfl) rfl rfl ?_; simp -implicitDefEqProofs; refine b4Z 1000000 1000001 5 (by simp) (by kernel_rfl) (by simp) (by simp) (fun b => ?_); simp -implicitDefEqProofs; refine H4 (length s) (fun k τ => τ 0 = .d (.str s) ∧ τ 5 = .d (.int .i64 k) ∧ τ 4 = .d (.raw (va b)) ∧ ∃ out, VaI Q1 s k out ∧ a9J τ b out) ?_ ?_
 · exact ⟨by simp, by simp, by simp, [], .zero s, .nilp, .slice none 0 0, .inl rfl, by simp [b4T], by simp [D5]⟩
 rintro k τ hk ⟨h0, h5, h4, out, hI, p, hd, hp, hb, hh⟩; have hol := hI.2; by_cases hlt : k < length s
 · by_cases h2 : s[k] = 92
   · have h2' : (s[k].toNat : Int) = 92 := (Z7 s[k] 92 (by omega)).2 h2; by_cases h3 : k + 1 < length s
     · have e := b8R h3 h2; have ne : ¬ (k : Int) + 1 = (length s : Int) := (by omega); have i1 : (0 : Int) ≤ (k : Int) + 1 := (by omega); have j1 : ((k : Int) + 1).toNat = k + 1 := (by omega); by_cases h6 : W9 s[k + 1] = true
       · rw [if_pos h6] at e; simp -implicitDefEqProofs [h0, h5, h4, hlt, h2', ne, h3, i1, j1]; (repeat refine ai (by omega) ?_); refine A3 (a0s s[k + 1]) ?_; simp -implicitDefEqProofs [h0, h5, h4, hlt, h2', ne, h3, i1, j1, h6]; refine K4 [1000000, 1000001] 1000000 (J8 (s := out) (hd := hd) hp s[k + 1] (by omega)) (by simp [hb, hh]) rfl (by simp) ?_; rintro r hs' ⟨hd1, rfl⟩; simp -implicitDefEqProofs [h0, h5, h4, hlt, B9, C6]; (repeat refine ai (by omega) ?_); exact c2l (k' := k + 2) (by omega) (by omega) ⟨by simp [h0], by simp; omega, by simp [h4], out ++ [s[k + 1]], hI.one (by omega) e, .raw (va b), hd1, .inr rfl, by simp, by simp⟩
       · rw [if_neg h6] at e; have hn := hI.none e; simp -implicitDefEqProofs [h0, h5, h4, hlt, h2', ne, h3, i1, j1]; (repeat refine ai (by omega) ?_); refine A3 (a0s s[k + 1]) ?_; simp -implicitDefEqProofs [h0, h5, h4, hlt, h2', ne, h3, i1, j1, h6, a6g, hn]
     · have hn := hI.none (b8t hlt h3 h2); have ne : (k : Int) + 1 = (length s : Int) := (by omega); simp -implicitDefEqProofs [h0, h5, h4, hlt, h2', ne, a6g, hn]; try omega
   · have h2' : ¬ (s[k].toNat : Int) = 92 := fun e => h2 ((Z7 s[k] 92 (by omega)).1 e)
     have e := b9l hlt h2; simp -implicitDefEqProofs [h0, h5, h4, hlt, h2']; refine A3 (a0s s[k]) ?_; by_cases h6 : W9 s[k] = true
     · rw [if_pos h6] at e; have hn := hI.none e; simp -implicitDefEqProofs [h0, h5, h4, hlt, h2', h6, a6g, hn]
     · rw [if_neg h6] at e; simp -implicitDefEqProofs [h0, h5, h4, hlt, h2', h6]; refine K4 [1000000, 1000001] 1000000 (J8 (s := out) (hd := hd) hp s[k] (by omega)) (by simp [hb, hh]) rfl (by simp) ?_; rintro r hs' ⟨hd1, rfl⟩; simp -implicitDefEqProofs [h0, h5, h4, hlt, B9, C6]; (repeat refine ai (by omega) ?_); exact F0 hlt ⟨by simp [h0], by simp, by simp [h4], out ++ [s[k]], hI.one (by omega) e, .raw (va b), hd1, .inr rfl, by simp, by simp⟩
 · have hv := hI.all hlt rfl; simp -implicitDefEqProofs [h0, h5, h4, hlt]; refine K4 [1000000, 1000001] 1000000 (a5z (s := out) (hd := hd) hp) (by simp [hb, hh]) rfl (by simp) ?_; rintro r hs' ⟨rfl, rfl⟩; simp -implicitDefEqProofs [h0, h5, h4, hlt, B9, C6, a6g, hv]
theorem b7k (s : Str) (hs : length s < 1000000) : Ctr prog 213 [.d (.str s)] (.d (.str (J0 s))) := by
 refine fv (fun _ => false) func213 (by kernel_rfl) rfl rfl rfl rfl rfl ?_; simp -implicitDefEqProofs; refine A3 (a9M s hs) ?_; simp -implicitDefEqProofs
theorem c3j (s : Str) (hs : length s < 1000000) : Ctr prog 184 [.d (.str s)] (.tup [.d (P8 (V8 s).1), .d (.int .i64 (V8 s).2)]) := by
 refine L9 (rv := .cell 2 121) (rs := [.tmp 3]) (r := .d (P8 (V8 s).1)) (ys := [.d (.int .i64 (V8 s).2)]) (fun _ => false) (by kernel_rfl) func184 (by kernel_rfl) rfl rfl (by simp) (nbl rfl) (by kernel_rfl) rfl rfl ?_; simp -implicitDefEqProofs; refine A3 (b3Q s 61 hs) ?_; by_cases hlt : G0 61 s < s.length
 case neg =>
   have hx : a1H 61 s = -1 := by rw [a1H, if_neg hlt]
   simp -implicitDefEqProofs [hx]; simp [V8, hlt, P8]
 have hx : a1H 61 s = (G0 61 s : Int) := by rw [a1H, if_pos hlt]
 unfold V8; rw [if_pos hlt]; have b1 : length (s.drop (G0 61 s + 1)) < 1000000 := by simp; omega
 have b2 : length (s.take (G0 61 s)) < 1000000 := by simp; omega
 generalize hj : G0 61 s = j at *; have htk : take (length s - (j + 1)) (drop (j + 1) s) = drop (j + 1) s := ttl (by simp); have i0 : ¬ (j : Int) < 0 := (by omega); have i1 : (0 : Int) ≤ (j : Int) + 1 := (by omega); have j1 : ((j : Int) + 1).toNat = j + 1 := (by omega); have c1 := b7k (s.drop (j + 1)) b1; have c2 := a9M (s.take j) b2; have t1 := a2C (s.drop (j + 1)); have t2 := a2C (s.take j); have c3 := c1e (J0 (s.drop (j + 1))) (by omega); have c4 := b0O (J0 (s.take j)) (by omega); have hvl := a7e _ (J0 (s.drop (j + 1))) (Nat.le_refl _); simp -implicitDefEqProofs [hx, i0, i1, j1, htk]; (repeat refine ai (by omega) ?_); refine A3 c1 ?_; simp -implicitDefEqProofs; refine A3 c3 ?_; generalize J0 (s.drop (j + 1)) = T at *; cases hv : Q1 T with
 | none =>
   simp -implicitDefEqProofs [a6g, hv]; (repeat refine ai (by omega) ?_); refine A3 c2 ?_; generalize J0 (s.take j) = K at *; simp -implicitDefEqProofs; simp [P8]
 | some v =>
   have hv2 := hvl v hv; have c5 := a9i v (by omega); rw [a8C] at c5; simp -implicitDefEqProofs [a6g, hv]; (repeat refine ai (by omega) ?_); refine A3 c2 ?_; generalize J0 (s.take j) = K at *; simp -implicitDefEqProofs; refine A3 c4 ?_; by_cases hn : U0 K = true
   · simp -implicitDefEqProofs [hn]; refine A3 c5 ?_; by_cases hc : S9 v = true
     · simp -implicitDefEqProofs [hc]; simp [P8]
     · simp -implicitDefEqProofs [hc]; simp [P8]
   · simp -implicitDefEqProofs [hn]; simp [P8]
theorem b6r : ∀ (n : Nat) (s : Str), s.length ≤ n → (Q8 s).length ≤ s.length + 1 ∧ ∀ p ∈ Q8 s, p.length ≤ s.length := by
 intro n
 induction n with
 | zero =>
   intro s hn; have : s = [] := length_eq_zero_iff.1 (by omega); subst this; rw [a3O (by simp)]; simp
 | succ n ih =>
   intro s hn; by_cases h : G0 44 s < s.length
   · rw [a6B h]; obtain ⟨h1, h2⟩ := ih (s.drop (G0 44 s + 1)) (by simp only [length_drop]; omega); simp only [length_drop] at h1 h2; refine ⟨by simp only [length_cons]; omega, fun p hp => ?_⟩; rcases mem_cons.1 hp with rfl | hp
     · simp only [length_take]; omega
     · have := h2 p hp; omega
   · rw [a3O h]; simp
theorem b7r {out : List G1} {ps : List Str} {k : Nat} (h : k < ps.length) : S2 out (ps.drop k) = if (V8 ps[k]).2 = 0 then S2 (out ++ [(V8 ps[k]).1]) (ps.drop (k + 1)) else ([], (V8 ps[k]).2) := by
 rw [a2I h]; rfl
theorem b4v (s : Str) (hs : length s < 900000) : Ctr prog 132 [.d (.str s)] (.tup [.d (K7 (E7 s).1), .d (.int .i64 (E7 s).2)]) := by
 refine L9 (rv := .tmp 2) (rs := [.tmp 3]) (r := .d (K7 (E7 s).1)) (ys := [.d (.int .i64 (E7 s).2)]) (fun _ => false) (by kernel_rfl) func132 (by kernel_rfl) rfl rfl (by simp) (nbl rfl) (by kernel_rfl) rfl rfl ?_; by_cases hnil : s = []
 · simp -implicitDefEqProofs [hnil, E7, K7]
 have hP : E7 s = S2 [] (Q8 s) := by rw [E7, if_neg hnil]
 have c1 := b8o s (by omega); obtain ⟨b1, b2⟩ := b6r _ s (Nat.le_refl _); rw [hP]; generalize Q8 s = ps at *; obtain ⟨R, hR⟩ : ∃ R, S2 [] ps = R := ⟨_, rfl⟩; rw [hR]; simp -implicitDefEqProofs [hnil]; refine A3 c1 ?_; simp -implicitDefEqProofs; refine H4 ps.length (fun k τ => τ 12 = .own false 9 (ps.map .str) ∧ τ 13 = .d (.int .i64 ps.length) ∧ τ 14 = .d (.int .i64 k) ∧ ∃ out : List G1, out.length = k ∧ τ 4 = .own false 121 (out.map P8) ∧ S2 out (ps.drop k) = R) ?_ ?_
 · exact ⟨by simp, by simp, by simp, [], rfl, by simp, by simpa using hR⟩
 rintro k τ hk ⟨h12, h13, h14, out, ho, h4, hI⟩; by_cases hlt : k < ps.length
 · have hlt' : (k : Int) < ps.length := (by omega); rw [b7r hlt] at hI; have hb := b2 _ (gmm hlt); have c2 := c3j ps[k] (by omega); simp -implicitDefEqProofs [h12, h13, h14, h4, hlt, hlt']; refine A3 c2 ?_; generalize V8 ps[k] = C at *; obtain ⟨⟨n, v⟩, e⟩ := C; by_cases he : e = 0
   · rw [if_pos he] at hI; simp -implicitDefEqProofs [h12, h13, h14, h4, hlt, hlt', he, P8]; (repeat refine ai (by omega) ?_); exact F0 hlt ⟨by simp [h12], by simp [h13], by simp, out ++ [(n, v)], by simp [ho], by simp [P8], hI⟩
   · rw [if_neg he] at hI; subst hI; simp -implicitDefEqProofs [h12, h13, h14, h4, hlt, hlt', he, P8]; simp [K7]
 · have hlt' : ¬ (k : Int) < ps.length := (by omega); rw [drop_eq_nil_of_le (by omega), S2] at hI; by_cases h8 : 8 < out.length
   · rw [if_pos h8] at hI; subst hI; have h8' : (8 : Int) < out.length := (by omega); simp -implicitDefEqProofs [h12, h13, h14, h4, hlt, hlt', h8', K7]; try omega
   · rw [if_neg h8] at hI; subst hI; have h8' : ¬ (8 : Int) < out.length := (by omega); simp -implicitDefEqProofs [h12, h13, h14, h4, hlt, hlt', h8', K7]; try omega
end Go.Proofs.Tz