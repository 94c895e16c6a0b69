/-
  What the functions that the statements about merged states reach compute, part 2 of 6, for data of bounded size (each theorem states its bound).
-/import Derived.Test.YtnknfnfinhagoaaGreatDoorTr
open List
open Go.Proofs.Tryz
set_option linter.unusedSimpArgs false
set_option linter.unusedVariables false
set_option maxRecDepth 100000
set_option maxHeartbeats 4000000
namespace Go.Proofs.Tz
open Go.Vw Go.RowKit Go.Proofs
theorem a5p (c : Csn) : Ctr prog 36 [.d (B0 c)] (.d (.str (I1 c))) := by
 refine fv (fun _ => false) func36 (by kernel_rfl) rfl rfl rfl rfl rfl ?_; have c0 := a8Z c; obtain ⟨t, s, r⟩ := c; unfold I1; by_cases hv : U3 (t, s, r) = true
 · have hv' := b2h.1 hv; simp only at hv'; rw [hv] at c0; rw [if_pos hv]; obtain ⟨t', rfl⟩ := Int.eq_ofNat_of_zero_le hv'.1; obtain ⟨s', rfl⟩ := Int.eq_ofNat_of_zero_le hv'.2.2.1; obtain ⟨r', rfl⟩ := Int.eq_ofNat_of_zero_le hv'.2.2.2.2.1; have c1 := b5U t' 11 (by omega) (by omega); have c2 := b5U s' 8 (by omega) (by omega); have c3 := b5U r' 1 (by omega) (by omega); have l1 := a1r 11 t'; have l2 := a1r 8 s'; have l3 := a1r 1 r'; simp only [Int.ofNat_eq_natCast, Int.toNat_natCast]; generalize Q7 t' 11 = A at *; generalize Q7 s' 8 = B at *; generalize Q7 r' 1 = C at *; simp only [B0] at c0; simp -implicitDefEqProofs [B0]; refine A3 c0 ?_; simp -implicitDefEqProofs; refine E4 c1 ?_; simp -implicitDefEqProofs; (repeat refine ai (by omega) ?_); refine E4 c2 ?_; simp -implicitDefEqProofs; (repeat refine ai (by omega) ?_); refine E4 c3 ?_; simp -implicitDefEqProofs; repeat refine ai (by omega) ?_
   first | done | omega
 · have hv' : U3 (t, s, r) = false := (by simpa using hv); rw [hv'] at c0; rw [if_neg hv]; simp only [B0] at c0; simp -implicitDefEqProofs [B0]; refine A3 c0 ?_; simp -implicitDefEqProofs
theorem b7f (s : Str) (hs : length s < 1000000) : Ctr prog 53 [.d (.str s)] (.tup [.d (B0 (P0 s).1), .d (.int .i64 (P0 s).2)]) := by
 refine O0 (rv := .cell 2 32) (rs := [.tmp 3]) (r := .d (B0 (P0 s).1)) (ys := [.d (.int .i64 (P0 s).2)]) (fun i => i == 9000003) (by kernel_rfl) func53 (by kernel_rfl) rfl rfl (by simp) (nbl rfl) (by kernel_rfl) rfl rfl ?_; obtain ⟨R, hR⟩ : ∃ R, P0 s = R := ⟨_, rfl⟩; rw [hR]; unfold P0 at hR; by_cases hl : s.length = 22
 case neg =>
   have hl' : ¬ (s.length : Int) = 22 := (by omega); rw [if_pos (.inl hl)] at hR; subst hR; simp -implicitDefEqProofs [hl', B0]
 have g11 := getElem?_eq_getElem (show 11 < s.length by omega); have g20 := getElem?_eq_getElem (show 20 < s.length by omega); generalize hx11 : s[11]'(by omega) = x11 at *; generalize hx20 : s[20]'(by omega) = x20 at *; by_cases h1 : x11 = 45
 case neg =>
   have h1' : ¬ (x11.toNat : Int) = 45 := fun e => h1 (UInt8.toNat_inj.1 (show x11.toNat = (45 : UInt8).toNat by simp; omega))
   rw [if_pos (.inr (.inl (by rw [g11]; simpa using h1)))] at hR; subst hR; simp -implicitDefEqProofs [hl, hx11, h1', B0]
 by_cases h2 : x20 = 45
 case neg =>
   have h2' : ¬ (x20.toNat : Int) = 45 := fun e => h2 (UInt8.toNat_inj.1 (show x20.toNat = (45 : UInt8).toNat by simp; omega))
   rw [if_pos (.inr (.inr (by rw [g20]; simpa using h2)))] at hR; subst hR; simp -implicitDefEqProofs [hl, hx11, hx20, h1, h2', B0]
 subst h1 h2; rw [if_neg (by rw [g11, g20]; simp [hl])] at hR; have c1 := a7U (s.take 11) (by simp; omega); have c2 := a7U ((s.take 20).drop 12) (by simp; omega); have c3 := a7U (s.drop 21) (by simp; omega); have c4 := a8Z (a3h s); obtain ⟨a, ha⟩ : ∃ a, a3h s = a := ⟨_, rfl⟩; have ha' := ha; unfold a3h at ha'; rw [ha] at hR c4; obtain ⟨p, q, r⟩ := a; simp only [Prod.mk.injEq] at ha'; obtain ⟨e1, e2, e3⟩ := ha'; rw [e1] at c1; rw [e2] at c2; rw [e3] at c3; rw [drop_take] at c2; rw [show s.drop 21 = (s.drop 21).take 1 from (ttl (by simp; omega)).symm] at c3; simp only at hR; simp only [B0] at c4; by_cases hp : p < 0
 · rw [if_pos (.inl hp)] at hR; subst hR; simp -implicitDefEqProofs [hl, hx11, hx20, B0]; refine E4 c1 ?_; simp -implicitDefEqProofs [hl]; refine E4 c2 ?_; simp -implicitDefEqProofs [hl]; refine E4 c3 ?_; simp -implicitDefEqProofs [hp]
 by_cases hq : q < 0
 · rw [if_pos (.inr (.inl hq))] at hR; subst hR; simp -implicitDefEqProofs [hl, hx11, hx20, B0]; refine E4 c1 ?_; simp -implicitDefEqProofs [hl]; refine E4 c2 ?_; simp -implicitDefEqProofs [hl]; refine E4 c3 ?_; simp -implicitDefEqProofs [hp, hq]
 by_cases hr : r < 0
 · rw [if_pos (.inr (.inr hr))] at hR; subst hR; simp -implicitDefEqProofs [hl, hx11, hx20, B0]; refine E4 c1 ?_; simp -implicitDefEqProofs [hl]; refine E4 c2 ?_; simp -implicitDefEqProofs [hl]; refine E4 c3 ?_; simp -implicitDefEqProofs [hp, hq, hr]
 rw [if_neg (by omega)] at hR; by_cases hv : U3 (p, q, r) = true
 · rw [if_neg (by rw [hv]; simp)] at hR; subst hR; rw [hv] at c4; simp -implicitDefEqProofs [hl, hx11, hx20, B0]; refine E4 c1 ?_; simp -implicitDefEqProofs [hl]; refine E4 c2 ?_; simp -implicitDefEqProofs [hl]; refine E4 c3 ?_; simp -implicitDefEqProofs [hp, hq, hr]; refine A3 c4 ?_; simp -implicitDefEqProofs
 · have hv' : U3 (p, q, r) = false := (by simpa using hv); rw [if_pos hv'] at hR; subst hR; rw [hv'] at c4; simp -implicitDefEqProofs [hl, hx11, hx20, B0]; refine E4 c1 ?_; simp -implicitDefEqProofs [hl]; refine E4 c2 ?_; simp -implicitDefEqProofs [hl]; refine E4 c3 ?_; simp -implicitDefEqProofs [hp, hq, hr]; refine A3 c4 ?_; simp -implicitDefEqProofs
end Go.Proofs.Tz
namespace Go.Proofs.Tz
open Go.Vw
theorem c5H (l m : List Str) (hl : l.length < 1000000) (hm : m.length < 1000000) : Ctr prog 111 [.d (C7 l), .d (C7 m)] (.d (.bool (decide (l = m)))) := by
 refine fv (fun _ => false) func111 (by kernel_rfl) rfl rfl rfl rfl rfl ?_; by_cases hlm : l.length = m.length
 · simp -implicitDefEqProofs [C7, hlm]; refine G7 m.length (fun k τ => τ 0 = .d (C7 l) ∧ τ 1 = .d (C7 m) ∧ τ 5 = .d (.int .i64 k) ∧ l.take k = m.take k) (by simp [C7]) ?_; rintro k τ hk ⟨h0, h1, h5, ht⟩; by_cases hlt : k < m.length
   · have hlt' : k < l.length := (by omega); by_cases he : l[k] = m[k]
     · simp -implicitDefEqProofs [h0, h1, h5, C7, hlm, hlt, hlt', he]; refine ⟨by omega, D5 hlt ⟨by simp [h0, C7], by simp [h1, C7], by simp, ?_⟩⟩; rw [F6 hlt, F6 hlt', ht, he]
     · simp -implicitDefEqProofs [h0, h1, h5, C7, hlm, hlt, hlt', he]; rintro rfl; exact he rfl
   · simp -implicitDefEqProofs [h0, h1, h5, C7, hlm, hlt]; rw [ttl (by omega), ttl (by omega)] at ht
     first | exact ⟨by omega, ht⟩ | exact ht
 · have hlm' : ¬ (l.length : Int) = m.length := (by omega); simp -implicitDefEqProofs [C7, hlm']; rintro rfl; exact hlm rfl
def O9 (s : Str) (r : Bool × List Str) (x : Str) : Bool × List Str :=
 (r.1 || !Op.bytesLess x s, r.2 ++ (if r.1 = false ∧ Op.bytesLess x s = false then [s] else []) ++ (if x = s then [] else [x]))
def a2I (s : Str) (l : List Str) : Bool × List Str := l.foldl (O9 s) (false, [])
def ins (l : List Str) (s : Str) : List Str := (a2I s l).2 ++ (if (a2I s l).1 then [] else [s])
theorem c1J {s : Str} {l : List Str} {k : Nat} (h : k < l.length) : a2I s (l.take (k + 1)) = O9 s (a2I s (l.take k)) l[k] := by
 rw [F6 h]; simp only [a2I, foldl_append, foldl_cons, foldl_nil]
theorem b6d (s : Str) : ∀ (l : List Str) (r : Bool × List Str), (l.foldl (O9 s) r).2.length ≤ r.2.length + 2 * l.length
 | [], r => by simp
 | x :: l, r => by
   have := b6d s l (O9 s r x); simp only [foldl_cons, length_cons]; have h2 : (O9 s r x).2.length ≤ r.2.length + 2 := by
     simp only [O9, length_append]; split <;> split <;> simp <;> omega
   all_goals omega
theorem c1T (s : Str) (l : List Str) : (a2I s l).2.length ≤ 2 * l.length := by simpa [a2I] using b6d s l (false, [])
theorem c1u (l : List Str) (s : Str) (hl : l.length < 1000000) : Ctr prog 112 [.d (C7 l), .d (.str s)] (.own true 9 ((ins l s).map .str)) := by
 refine fv (fun i => decide (i < 1000000)) func112 (by kernel_rfl) rfl rfl rfl rfl rfl ?_; simp -implicitDefEqProofs; refine G7 l.length (fun k τ => τ 0 = .d (C7 l) ∧ τ 1 = .d (.str s) ∧ τ 6 = .d (.bool (a2I s (l.take k)).1) ∧ τ 5 = .own true 9 ((a2I s (l.take k)).2.map .str) ∧ τ 7 = .d (.int .i64 k)) (by simp [a2I]) ?_; rintro k τ hk ⟨h0, h1, h6, h5, h7⟩; have hlen := c1T s (l.take k); rw [length_take, Nat.min_eq_left hk] at hlen; have ht := fun h => c1J (s := s) (l := l) (k := k) h
 generalize hr : a2I s (l.take k) = r at *; obtain ⟨d, out⟩ := r; simp only at hlen h6 h5; by_cases hlt : k < l.length
 · have ht := ht hlt; cases d with
   | true =>
     by_cases he : l[k] = s
     · simp -implicitDefEqProofs [h0, h1, h6, h5, h7, C7, hlt, he]; refine ⟨by omega, D5 hlt ⟨by simp [h0, C7], by simp [h1], ?_, ?_, by simp⟩⟩
       · rw [ht]; simp [h6, O9]
       · rw [ht]; simp [h5, O9, he]
     · simp -implicitDefEqProofs [h0, h1, h6, h5, h7, C7, hlt, he]; refine ⟨by omega, by omega, by omega, D5 hlt ⟨by simp [h0, C7], by simp [h1], ?_, ?_, by simp⟩⟩
       · rw [ht]; simp [h6, O9]
       · rw [ht]; simp [h5, O9, he]
   | false =>
     by_cases hb : Op.bytesLess l[k] s = true
     · by_cases he : l[k] = s
       · have hb' : Op.bytesLess s s = true := by rw [he] at hb; exact hb
         simp -implicitDefEqProofs [h0, h1, h6, h5, h7, C7, hlt, he, hb']; refine ⟨by omega, D5 hlt ⟨by simp [h0, C7], by simp [h1], ?_, ?_, by simp⟩⟩
         · rw [ht]; simp [h6, O9, he, hb']
         · rw [ht]; simp [h5, O9, he, hb']
       · simp -implicitDefEqProofs [h0, h1, h6, h5, h7, C7, hlt, he, hb]; refine ⟨by omega, by omega, by omega, D5 hlt ⟨by simp [h0, C7], by simp [h1], ?_, ?_, by simp⟩⟩
         · rw [ht]; simp [h6, O9, he, hb]
         · rw [ht]; simp [h5, O9, he, hb]
     · by_cases he : l[k] = s
       · have hb' : Op.bytesLess s s = false := by rw [he] at hb; simpa using hb
         simp -implicitDefEqProofs [h0, h1, h6, h5, h7, C7, hlt, he, hb']; refine ⟨by omega, by omega, by omega, D5 hlt ⟨by simp [h0, C7], by simp [h1], ?_, ?_, by simp⟩⟩
         · rw [ht]; simp [h6, O9, he, hb']
         · rw [ht]; simp [h5, O9, he, hb']
       · simp -implicitDefEqProofs [h0, h1, h6, h5, h7, C7, hlt, he, hb]; refine ⟨by omega, by omega, by omega, by omega, by omega, D5 hlt ⟨by simp [h0, C7], by simp [h1], ?_, ?_, by simp⟩⟩
         · rw [ht]; simp [h6, O9, he, hb]
         · rw [ht]; simp [h5, O9, he, hb]
 · rw [ttl (by omega)] at hr; cases d with
   | true =>
     simp -implicitDefEqProofs [h0, h1, h6, h5, h7, C7, hlt, ins, hr]
     all_goals omega
   | false =>
     simp -implicitDefEqProofs [h0, h1, h6, h5, h7, C7, hlt, ins, hr]
     all_goals omega
abbrev Att := Str × List Str
def att (a : Att) : D := .agg [.str a.1, C7 a.2]
def H9 (l : List Att) : D := .sl (l.map att)
def b2I (l : List Att) : Prop := l.length < 1000000 ∧ ∀ a ∈ l, length a.1 < 1000000 ∧ a.2.length < 1000000
theorem c4u (l m : List Att) (hl : b2I l) (hm : b2I m) : Ctr prog 60 [.d (H9 l), .d (H9 m)] (.d (.bool (decide (l = m)))) := by
 refine fv (fun _ => false) func60 (by kernel_rfl) rfl rfl rfl rfl rfl ?_; have hl1 := hl.1; have hm1 := hm.1; by_cases hlm : l.length = m.length
 · simp -implicitDefEqProofs [H9, hlm]; refine G7 m.length (fun k τ => τ 0 = .d (H9 l) ∧ τ 1 = .d (H9 m) ∧ τ 5 = .d (.int .i64 k) ∧ l.take k = m.take k) (by simp [H9]) ?_; rintro k τ hk ⟨h0, h1, h5, ht⟩; by_cases hlt : k < m.length
   · have hlt' : k < l.length := (by omega); by_cases he : l[k].1 = m[k].1
     · simp -implicitDefEqProofs [h0, h1, h5, H9, att, C7, hlm, hlt, hlt', he]; refine E4 (c5H _ _ (hl.2 _ (gmm hlt')).2 (hm.2 _ (gmm hlt)).2) ?_; by_cases he2 : l[k].2 = m[k].2
       · simp -implicitDefEqProofs [h0, h1, h5, H9, att, C7, hlm, hlt, hlt', he, he2]; refine ⟨by omega, D5 hlt ⟨by simp [h0, H9, att, C7], by simp [h1, H9, att, C7], by simp, ?_⟩⟩; rw [F6 hlt, F6 hlt', ht, Prod.ext he he2]
       · simp -implicitDefEqProofs [h0, h1, h5, H9, att, C7, hlm, hlt, hlt', he, he2]; rintro rfl; exact he2 rfl
     · simp -implicitDefEqProofs [h0, h1, h5, H9, att, C7, hlm, hlt, hlt', he]; rintro rfl; exact he rfl
   · simp -implicitDefEqProofs [h0, h1, h5, H9, hlm, hlt]; rw [ttl (by omega), ttl (by omega)] at ht
     first | exact ⟨by omega, ht⟩ | exact ht
 · have hlm' : ¬ (l.length : Int) = m.length := (by omega); simp -implicitDefEqProofs [H9, hlm']; rintro rfl; exact hlm rfl
theorem b3G (s : Str) : ∀ (l : List Str) (r : Bool × List Str) (c : Nat), r.2.length ≤ c + r.1.toNat → (l.foldl (O9 s) r).2.length ≤ c + l.length + (l.foldl (O9 s) r).1.toNat
 | [], _, _, h => h
 | x :: l, (d, out), c, h => by
   have h2 : (O9 s (d, out) x).2.length ≤ (c + 1) + (O9 s (d, out) x).1.toNat := by
     simp only at h; cases d <;> by_cases hb : Op.bytesLess x s = true <;> by_cases he : x = s <;> simp [O9, hb, he] at h ⊢ <;> first
       | omega
       | (split <;> simp <;> omega)
   have := b3G s l (O9 s (d, out) x) (c + 1) h2; simp only [foldl_cons, length_cons]; omega
theorem b7w (l : List Str) (s : Str) : (ins l s).length ≤ l.length + 1 := by
 have : (a2I s l).2.length ≤ 0 + l.length + (a2I s l).1.toNat := b3G s l (false, []) 0 (by simp); simp only [ins, length_append]; cases h : (a2I s l).1 <;> simp [h] at this ⊢ <;> omega
def Y8 (ns : List Str) (a : Att) : List Str := if a.2 = [] then ns else ins ns (D9 a.1)
def X6 (l : List Att) : List Str := l.foldl Y8 []
def a0V (n : Str) (vs : List Str) (a : Att) : List Str := if D9 a.1 = n then a.2.foldl ins vs else vs
def a0A (l : List Att) (n : Str) : List Str := l.foldl (a0V n) []
def G4 (l : List Att) : List Att := (X6 l).map fun n => (n, a0A l n)
theorem a9A {l : List Att} {k : Nat} (h : k < l.length) : X6 (l.take (k + 1)) = Y8 (X6 (l.take k)) l[k] := by
 rw [F6 h]; simp only [X6, foldl_append, foldl_cons, foldl_nil]
theorem b9e {l : List Att} {n : Str} {k : Nat} (h : k < l.length) : a0A (l.take (k + 1)) n = a0V n (a0A (l.take k) n) l[k] := by
 rw [F6 h]; simp only [a0A, foldl_append, foldl_cons, foldl_nil]
theorem a5o : ∀ (l : List Att) (ns : List Str), (l.foldl Y8 ns).length ≤ ns.length + l.length
 | [], ns => by simp
 | a :: l, ns => by
   have := a5o l (Y8 ns a); have h2 : (Y8 ns a).length ≤ ns.length + 1 := by
     unfold Y8; split
     · omega
     · exact b7w _ _
   simp only [foldl_cons, length_cons]; omega
theorem a6H : ∀ (l ns : List Str), (l.foldl ins ns).length ≤ ns.length + l.length
 | [], ns => by simp
 | a :: l, ns => by
   have := a6H l (ins ns a); have := b7w ns a; simp only [foldl_cons, length_cons]; omega
def I4 (l : List Att) : Nat := (l.map (·.2.length)).sum
theorem b5L (n : Str) : ∀ (l : List Att) (vs : List Str), (l.foldl (a0V n) vs).length ≤ vs.length + I4 l
 | [], vs => by simp [I4]
 | a :: l, vs => by
   have := b5L n l (a0V n vs a); have h2 : (a0V n vs a).length ≤ vs.length + a.2.length := by
     unfold a0V; split
     · exact a6H _ _
     · omega
   simp only [foldl_cons, I4, map_cons, sum_cons] at this ⊢
   all_goals omega
def a5N (l : List Att) : Prop := b2I l ∧ I4 l < 500000
theorem b1R (l : List Att) (k : Nat) (h : k < l.length) : I4 (l.take k) + l[k].2.length ≤ I4 l := by
 have e : I4 l = I4 (l.take k) + (l[k].2.length + I4 (l.drop (k + 1))) := by
   conv => lhs; rw [← take_append_drop k l, drop_eq_getElem_cons h]
   simp only [I4, map_append, map_cons, sum_append, sum_cons]
 all_goals omega
def a3w (l : List Att) (ns : List Str) (i : Nat) : List D := ((ns.take i).map fun n => (n, a0A l n)).map att
theorem c1L (l : List Att) (ns : List Str) : a3w l ns 0 = [] := rfl
theorem c0y (l : List Att) {ns : List Str} {i : Nat} (h : i < ns.length) : a3w l ns (i + 1) = a3w l ns i ++ [.agg [.str ns[i], C7 (a0A l ns[i])]] := by
 rw [a3w, F6 h]; simp only [map_append, map_cons, map_nil]; rfl
theorem c3S (l : List Att) {ns : List Str} {i : Nat} (h : i ≤ ns.length) : (a3w l ns i).length = i := by simp [a3w, Nat.min_eq_left h]
theorem c2O (l : List Att) (i : Nat) (h : (X6 l).length ≤ i) : a3w l (X6 l) i = (G4 l).map att := by rw [a3w, ttl h]; rfl
theorem b8I (l : List Att) (ns : List Str) (i : Nat) : ∀ u ∈ a3w l ns i, B6 u = 2 := by
 intro u hu; simp only [a3w, map_map, mem_map] at hu; obtain ⟨n, _, rfl⟩ := hu; rfl
theorem b1x (l : List Att) (hl : a5N l) : Ctr prog 61 [.d (H9 l)] (.own true 72 ((G4 l).map att)) := by
 refine fv (fun i => i == 5) func61 (by kernel_rfl) rfl rfl rfl rfl rfl ?_; obtain ⟨⟨hl1, hl2⟩, hl3⟩ := hl; simp -implicitDefEqProofs; refine G7 l.length (fun k τ => τ 0 = .d (H9 l) ∧ τ 4 = .d (.int .i64 k) ∧ τ 3 = .own false 9 ((X6 (l.take k)).map .str)) (by simp [X6]) ?_; rintro k τ hk ⟨h0, h4, h3⟩; by_cases hlt : k < l.length
 · have hn := a5o (l.take k) []; rw [length_take] at hn; by_cases he : l[k].2 = []
   · simp -implicitDefEqProofs [h0, h4, h3, hlt, H9, att, C7, he]; refine ⟨by omega, D5 hlt ⟨by simp [h0, H9, att, C7], by simp, ?_⟩⟩; rw [a9A hlt]; simp [h3, Y8, he]
   · have he' : 0 < l[k].2.length := length_pos_iff.2 he; simp -implicitDefEqProofs [h0, h4, h3, hlt, H9, att, C7, he']; refine A3 (a6D _ (hl2 _ (gmm hlt)).1) ?_; simp -implicitDefEqProofs [h0, h4, h3, hlt, H9, att, C7, he']; have hf := c1u (X6 (l.take k)) (D9 l[k].1) (by simp only [length_nil] at hn; unfold X6; omega); simp only [C7] at hf; refine A3 hf ?_; simp -implicitDefEqProofs [h0, h4, h3, hlt, H9, att, C7, he']; refine ⟨by omega, D5 hlt ⟨by simp [h0, H9, att, C7], by simp, ?_⟩⟩; rw [a9A hlt]; simp [Y8, he]
 · simp -implicitDefEqProofs [h0, h4, h3, hlt, H9]; rw [ttl (by omega)] at h3; have hn := a5o l []; generalize hN : X6 l = ns at *; rw [show foldl Y8 [] l = X6 l from rfl, hN] at hn; simp only [length_nil, Nat.zero_add] at hn; refine G7 ns.length (fun i τ => τ 0 = .d (H9 l) ∧ τ 3 = .own false 9 (ns.map .str) ∧ τ 6 = .d (.int .i64 i) ∧ τ 5 = .own true 72 (a3w l ns i)) (by simp [h0, h3, hN, H9, c1L]) ?_; clear h0 h3 h4 τ; rintro i τ hi ⟨h0, h3, h6, h5⟩; by_cases hlt2 : i < ns.length
   · simp -implicitDefEqProofs [h0, h3, h5, h6, hlt2, H9, att, C7]; refine G7 l.length (fun k τ => τ 0 = .d (H9 l) ∧ τ 3 = .own false 9 (ns.map .str) ∧ τ 6 = .d (.int .i64 i) ∧ τ 5 = .own true 72 (a3w l ns i) ∧ τ 8 = .d (.int .i64 k) ∧ τ 7 = .box (.agg [.str ns[i], C7 (a0A (l.take k) ns[i])])) (by simp [h0, h3, h5, h6, hN, H9, att, C7, a0A]) ?_; clear h0 h3 h6 h5 τ hk hlt k; rintro k τ hk ⟨h0, h3, h6, h5, h8, h7⟩; by_cases hlt : k < l.length
     · have hv := b5L ns[i] (l.take k) []; have ht := b1R l k hlt; rw [show (l.take k).foldl (a0V ns[i]) [] = a0A (l.take k) ns[i] from rfl] at hv; have hst := b9e (n := ns[i]) hlt; generalize a0A (l.take k) ns[i] = vs at *; simp -implicitDefEqProofs [h0, h3, h5, h6, h7, h8, hlt, hlt2, H9, att, C7]; refine G7 l[k].2.length (fun j τ => τ 0 = .d (H9 l) ∧ τ 3 = .own false 9 (ns.map .str) ∧ τ 6 = .d (.int .i64 i) ∧ τ 5 = .own true 72 (a3w l ns i) ∧ τ 8 = .d (.int .i64 k) ∧ τ 9 = .d (.int .i64 j) ∧ τ 7 = .box (.agg [.str ns[i], C7 (if D9 l[k].1 = ns[i] then (l[k].2.take j).foldl ins vs else vs)])) (by simp [h0, h3, h5, h6, h7, h8, H9, att, C7]) ?_; clear h0 h3 h6 h5 h8 h7 τ; rintro j τ hj ⟨h0, h3, h6, h5, h8, h9, h7⟩; have hal := (hl2 _ (gmm hlt)); by_cases hn : D9 l[k].1 = ns[i]
       · rw [if_pos hn] at h7; by_cases hlt3 : j < l[k].2.length
         · simp -implicitDefEqProofs [h0, h3, h5, h6, h7, h8, h9, hlt, hlt2, hlt3, H9, att, C7]; refine E4 (a6D _ hal.1) ?_; simp -implicitDefEqProofs [h0, h3, h5, h6, h7, h8, h9, hlt, hlt2, hlt3, H9, att, C7, hn]; have hal2 := a6H (l[k].2.take j) vs; have hf := c1u ((l[k].2.take j).foldl ins vs) l[k].2[j] (by simp only [length_take, length_nil] at hal2 hv; omega); simp only [C7] at hf; refine E4 hf ?_; simp -implicitDefEqProofs [h0, h3, h5, h6, h7, h8, h9, hlt, hlt2, hlt3, H9, att, C7, hn]; refine ⟨by omega, D5 hlt3 ⟨by simp [h0, H9, att, C7], by simp [h3], by simp [h6], by simp [h5], by simp [h8], by simp, ?_⟩⟩; rw [F6 hlt3, foldl_append]; simp -implicitDefEqProofs [C7]
         · simp -implicitDefEqProofs [h0, h3, h5, h6, h7, h8, h9, hlt, hlt2, hlt3, H9, att, C7]; refine E4 (a6D _ hal.1) ?_; simp -implicitDefEqProofs [h0, h3, h5, h6, h7, h8, h9, hlt, hlt2, hlt3, H9, att, C7, hn]; refine ⟨by omega, D5 hlt ⟨by simp [h0, H9, att, C7], by simp [h3], by simp [h6], by simp [h5], by simp, ?_⟩⟩; rw [hst, a0V, if_pos hn]; rw [ttl (by omega)] at h7; simp -implicitDefEqProofs [h7, C7]
       · rw [if_neg hn] at h7; simp -implicitDefEqProofs [h0, h3, h5, h6, h7, h8, h9, hlt, hlt2, H9, att, C7]; refine E4 (a6D _ hal.1) ?_; simp (config := { maxSteps := 1000000 }) [h0, h3, h5, h6, h7, h8, h9, hlt, hlt2, H9, att, C7, hn]; refine ⟨by omega, D5 hlt ⟨by simp [h0, H9, att, C7], by simp [h3], by simp [h6], by simp [h5], by simp, ?_⟩⟩; rw [hst, a0V, if_neg hn]; simp -implicitDefEqProofs [h7, C7]
     · have hw := b8I l ns i; rw [ttl (by omega)] at h7; simp -implicitDefEqProofs [h0, h3, h5, h6, h7, h8, hlt, hlt2, H9, att, C7]; rw [c3S l hi]; refine ⟨by omega, by omega, by omega, D5 hlt2 ⟨by simp [h0, H9, att, C7], by simp [h3], by simp, ?_⟩⟩; simp -implicitDefEqProofs [c0y l hlt2, C7]
   · simp -implicitDefEqProofs [h0, h3, h5, h6, hlt2, H9, att, C7]; rw [← hN]; exact c2O l i (by rw [hN]; omega)
theorem b5l (c : UInt8) : Ctr prog 109 [.d (u8 c)] (.d (.bool (decide (65 ≤ (c.toNat : Int)) && decide ((c.toNat : Int) ≤ 90)))) := by
 refine fv (fun _ => false) func109 (by kernel_rfl) rfl rfl rfl rfl rfl ?_; by_cases h1 : 65 ≤ (c.toNat : Int) <;> simp [u8, h1]
theorem b1e (c : UInt8) : Ctr prog 107 [.d (u8 c)] (.d (.bool (a3d c))) := by
 refine fv (fun _ => false) func107 (by kernel_rfl) rfl rfl rfl rfl rfl ?_; simp -implicitDefEqProofs; refine A3 (b5l c) ?_; by_cases h1 : 97 ≤ (c.toNat : Int) <;> by_cases h2 : (c.toNat : Int) ≤ 122 <;> by_cases h3 : 65 ≤ (c.toNat : Int) <;> by_cases h4 : (c.toNat : Int) ≤ 90 <;> simp -implicitDefEqProofs [u8, a3d, h1, h2, h3, h4]
theorem c1G (c : UInt8) : Ctr prog 108 [.d (u8 c)] (.d (.bool (a9u c))) := by
 refine fv (fun _ => false) func108 (by kernel_rfl) rfl rfl rfl rfl rfl ?_; by_cases h1 : 48 ≤ (c.toNat : Int) <;> simp [u8, a9u, h1]
theorem b8T (c : UInt8) : Ctr prog 106 [.d (u8 c)] (.d (.bool (a1M c))) := by
 refine fv (fun _ => false) func106 (by kernel_rfl) rfl rfl rfl rfl rfl ?_; simp -implicitDefEqProofs [u8]; refine A3 (b1e c) ?_; by_cases h1 : a3d c = true
 · simp -implicitDefEqProofs [h1, a1M]
 · simp -implicitDefEqProofs [h1]; refine A3 (c1G c) ?_; by_cases h2 : a9u c = true <;> by_cases h3 : (c.toNat : Int) = 45 <;> simp [h1, h2, h3, a1M]
theorem b9r (l : List Att) : (G4 l).length ≤ l.length := by
 have := a5o l []; simp only [length_nil, Nat.zero_add] at this; simpa [G4, X6] using this
theorem c6g (s : Str) (hs : length s < 1000000) : Ctr prog 105 [.d (.str s), .d (.clo 106 [])] (.d (.bool (s.all a1M && decide (s ≠ []) && decide (s.length ≤ 64)))) := by
 refine fv (fun _ => false) func105 (by kernel_rfl) rfl rfl rfl rfl rfl ?_; simp -implicitDefEqProofs; refine G7 (length s) (fun k τ => τ 0 = .d (.str s) ∧ τ 1 = .d (.clo 106 []) ∧ τ 7 = .d (.int .i64 (length s)) ∧ τ 8 = .d (.int .i64 k) ∧ ∀ x ∈ s.take k, a1M x = true) (by simp) ?_; rintro k τ hk ⟨h0, h1, h7, h8, ha⟩; by_cases hlt : k < length s
 · simp -implicitDefEqProofs [h0, h1, h7, h8, hlt]; refine A3 (b8T s[k]) ?_; by_cases e1 : a1M s[k] = true
   · simp -implicitDefEqProofs [h0, h1, h7, h8, hlt, e1]; exact ⟨by omega, D5 hlt ⟨by simp [h0], by simp [h1], by simp [h7], by simp, b5X hlt ha e1⟩⟩
   · simp -implicitDefEqProofs [h0, h1, h7, h8, hlt, e1]; intro h; exact absurd (h _ (gmm hlt)) e1
 · rw [ttl (by omega)] at ha; have hall : List.all s a1M = true := (by simpa using ha); by_cases e2 : s = []
   · simp -implicitDefEqProofs [h0, h1, h7, h8, hlt, e2]
   · simp -implicitDefEqProofs [h0, h1, h7, h8, hlt, e2, hall]
     all_goals omega
theorem b0J (s : Str) (hs : length s < 1000000) : Ctr prog 55 [.d (.str s)] (.d (.bool (U1 s))) := by
 refine fv (fun _ => false) func55 (by kernel_rfl) rfl rfl rfl rfl rfl ?_; simp -implicitDefEqProofs; refine A3 (c6g s hs) ?_; by_cases e : (s.all a1M && decide (s ≠ []) && decide (s.length ≤ 64)) = true
 · have e0 := e; simp only [Bool.and_eq_true, decide_eq_true_eq] at e; obtain ⟨⟨e1, e2⟩, e3⟩ := e; obtain ⟨c, t, rfl⟩ := exists_cons_of_ne_nil e2; simp only [e0]; simp -implicitDefEqProofs; refine A3 (b1e c) ?_; have e4 : (length (c :: t)) ≤ 64 := e3; simp -implicitDefEqProofs [U1, e1, e4]; intro _; simpa using e4
 · rw [Bool.not_eq_true] at e; simp only [e]; simp -implicitDefEqProofs [U1]; intro h1 h2 _; have hne : s ≠ [] := by
     rintro rfl; simp at h1
   simpa [hne, h2] using e
def fil (n : Str) (s : List Att) : List Att := s.filter fun a => !decide (a.1 = n)
def b6H (l : List Att) (name : Str) : List Att := fil (D9 name) (G4 l)
def a6Y (l : List Att) (name : Str) (v : List Str) : List Att × Int :=
 if 32 < (G4 (b6H l name ++ [(name, v)])).length ∨ 16 < v.length then ([], 3) else (G4 (b6H l name ++ [(name, v)]), 0)
def a2Y {α : Type} (p : α → Bool) : Nat → List α → Int
 | _, [] => -1
 | k, x :: l => if p x = true then k else a2Y p (k + 1) l
theorem c1A {α : Type} {p : α → Bool} {l : List α} {k : Nat} (h : k < l.length) : a2Y p k (l.drop k) = if p l[k] = true then (k : Int) else a2Y p (k + 1) (l.drop (k + 1)) := by
 rw [drop_eq_getElem_cons h, a2Y]
end Go.Proofs.Tz
namespace Go.Proofs.Tz
open Go.Vw Go.RowKit Go.Proofs
def b3g {α : Type} (p : α → Bool) (l : List α) (k : Nat) : Bool := (l.take k).any p
end Go.Proofs.Tz
namespace Go.Proofs.Tz
open Go.Vw
theorem c3R {c : UInt8} (h : ¬ (65 ≤ (c.toNat : Int) ∧ (c.toNat : Int) ≤ 90)) : a1I c = c := if_neg h
def a2j (s : Str) (k : Nat) : List D := ((D9 (s.take k)) ++ s.drop k).map u8
theorem c0g (s : Str) (k : Nat) (h : k ≤ length s) : (a2j s k).length = length s := by simp [a2j, D9]; omega
theorem c2o (s : Str) (k : Nat) (h : k < length s) : (a2j s k)[k]? = some (u8 s[k]) := by
 have hl : (D9 (s.take k)).length = k := by simp [D9]; omega
 simp only [a2j, getElem?_map]; rw [getElem?_append_right (by omega), hl, Nat.sub_self]; simp [h]
theorem c0T (s : Str) (k : Nat) (h : k < length s) : (a2j s k).set k (u8 (a1I s[k])) = a2j s (k + 1) := by
 have hl : (D9 (s.take k)).length = k := by simp [D9]; omega
 simp only [a2j, ← map_set]; rw [set_append_right _ _ (by omega), hl, Nat.sub_self, drop_eq_getElem_cons h, set_cons_zero, F6 h]; simp only [D9, map_append, map_cons, map_nil, append_assoc, singleton_append]
theorem a2z (s : Str) (hs : length s < 1000000) : Ctr prog 56 [.d (.str s)] (.d (.str (D9 s))) := by
 refine fv (fun i => decide (i < 1000000)) func56 (by kernel_rfl) rfl rfl rfl rfl rfl ?_; simp -implicitDefEqProofs; refine ⟨by omega, ?_⟩; refine G7 (length s) (fun k τ => τ 9 = .d (.int .i64 k) ∧ τ 8 = .d (.int .i64 (length s)) ∧ τ 3 = .own true 100005 (a2j s k)) (by simp [a2j, D9, D7, u8]) ?_; rintro k τ hk ⟨h9, h8, h3⟩; have hlen := c0g s k hk; by_cases hlt : k < length s
 · have hg := c2o s k hlt; have hset := c0T s k hlt; generalize a2j s k = M at *; have hlt2 : k < M.length := (by omega); have hg2 : M[k] = u8 s[k] := (List.getElem?_eq_some_iff.1 hg).2; simp -implicitDefEqProofs [h9, h8, h3, hlt, hlt2, hg2, u8]; refine A3 (b5l _) ?_; by_cases h1 : 65 ≤ (s[k].toNat : Int) ∧ (s[k].toNat : Int) ≤ 90
   · simp -implicitDefEqProofs [h9, h8, h3, hlt, hlt2, hg2, u8, h1.1, h1.2]; have e : u8 (a1I s[k]) = .int .u8 ((s[k].toNat : Int) + 32) := by
       simp only [u8, a4p _ h1.1 h1.2]; congr 1; omega
     rw [e] at hset; exact ⟨by omega, by omega, D5 hlt ⟨by simp, by simp [h8], by simp [hset]⟩⟩
   · have hb : (decide (65 ≤ (s[k].toNat : Int)) && decide ((s[k].toNat : Int) ≤ 90)) = false := (by simpa using h1); simp -implicitDefEqProofs [h9, h8, h3, hlt, hlt2, hg2, u8, hb]; rw [c3R h1, ← hg2, set_getElem_self] at hset; exact ⟨by omega, D5 hlt ⟨by simp, by simp [h8], by simp [h3, hset]⟩⟩
 · simp -implicitDefEqProofs [h9, h8, h3, hlt]; have e : a2j s k = D7 (D9 s) := by
     have : k = length s := (by omega); subst this; simp [a2j, D7, u8]
   simp -implicitDefEqProofs [e, h3]
theorem c7y {x c : UInt8} (h : ¬ x = c) : ¬ ((x.toNat : Int) = c.toNat) := fun e => h (UInt8.toNat_inj.1 (by omega))
def Y5 (c : UInt8) (s : Str) : Str := s.dropWhile fun x => decide (x = c)
def S8 (c : UInt8) (s : Str) : Str := (s.reverse.dropWhile fun x => decide (x = c)).reverse
theorem c4h (s : Str) (c : UInt8) : Ctr prog 191 [.d (.str s), .d (u8 c)] (.d (.str (Y5 c s))) := by
 refine fv (fun _ => false) func191 (by kernel_rfl) rfl rfl rfl rfl rfl ?_; simp -implicitDefEqProofs [u8]; refine b1K (fun n τ => ∃ t : Str, n = t.length ∧ τ 0 = .d (.str t) ∧ τ 1 = .d (.int .u8 c.toNat) ∧ Y5 c t = Y5 c s) s.length ⟨s, rfl, by simp, by simp, rfl⟩ ?_; rintro n τ ⟨t, rfl, h0, h1, ht⟩; cases t with
 | nil =>
   simp -implicitDefEqProofs [h0, h1]; rw [← ht]; rfl
 | cons x t =>
   by_cases hx : x = c
   · subst hx; simp -implicitDefEqProofs [h0, h1]; exact ⟨_, by omega, t, rfl, rfl, by rw [← ht, Y5, Y5, dropWhile_cons, if_pos (by simp)]⟩
   · have := c7y hx; simp -implicitDefEqProofs [h0, h1, this]; rw [← ht, Y5, dropWhile_cons, if_neg (by simp [hx])]
theorem a3A {c : UInt8} {t : Str} (h : 0 < length t) : S8 c t = if t[length t - 1] = c then S8 c (t.take (length t - 1)) else t := by
 have e : t = t.take (length t - 1) ++ [t[length t - 1]] := by
   have := F6 (l := t) (k := length t - 1) (by omega); rw [show length t - 1 + 1 = length t by omega, take_length] at this; exact this
 conv => lhs; rw [e]
 rw [S8, reverse_append, reverse_singleton, singleton_append, dropWhile_cons]; by_cases hx : t[length t - 1] = c
 · rw [if_pos (by simpa using hx), if_pos hx, S8]
 · rw [if_neg (by simpa using hx), if_neg hx, reverse_cons, reverse_reverse]; exact e.symm
theorem c4z (s : Str) (c : UInt8) (hs : length s < 1000000) : Ctr prog 192 [.d (.str s), .d (u8 c)] (.d (.str (S8 c s))) := by
 refine fv (fun _ => false) func192 (by kernel_rfl) rfl rfl rfl rfl rfl ?_; simp -implicitDefEqProofs [u8]; refine b1K (fun n τ => ∃ t : Str, n = t.length ∧ τ 0 = .d (.str t) ∧ τ 1 = .d (.int .u8 c.toNat) ∧ length t < 1000000 ∧ S8 c t = S8 c s) s.length ⟨s, rfl, by simp, by simp, hs, rfl⟩ ?_; rintro n τ ⟨t, rfl, h0, h1, hl, ht⟩; by_cases hpos : 0 < length t
 · have hi : 0 ≤ (length t : Int) - 1 := (by omega); have hi2 : ((length t : Int) - 1).toNat = length t - 1 := (by omega); have hi3 : length t - 1 < length t := (by omega); have hi4 : -9223372036854775808 ≤ (length t : Int) - 1 := (by omega); have hi5 : (length t : Int) - 1 ≤ 9223372036854775807 := (by omega); have hi6 : 1 ≤ (length t : Int) := (by omega); have hz : ¬ t = [] := fun e => by subst e; simp at hpos
   rw [a3A hpos] at ht; by_cases hx : t[length t - 1] = c
   · rw [if_pos hx] at ht; simp -implicitDefEqProofs [h0, h1, hpos, hi, hi2, hi3, hi4, hi5, hi6, hx, hz]; exact ⟨length t - 1, by omega, t.take (length t - 1), by rw [length_take]; omega, rfl, by rw [length_take]; omega, ht⟩
   · have := c7y hx; rw [if_neg hx] at ht; simp -implicitDefEqProofs [h0, h1, hpos, hi, hi2, hi3, hi4, hi5, hi6, this, hz]; exact ht
 · obtain rfl : t = [] := eq_nil_of_length_eq_zero (by omega); simp -implicitDefEqProofs [h0, h1]; rw [← ht]; rfl
def J1 (s : Str) : Str := Y5 32 (S8 32 s)
theorem b9D (s : Str) (hs : length s < 1000000) : Ctr prog 149 [.d (.str s), .d (.str [32])] (.d (.str (J1 s))) := by
 refine fv (fun _ => false) func149 (by kernel_rfl) rfl rfl rfl rfl rfl ?_; by_cases hz : s = []
 · subst hz; simp -implicitDefEqProofs; try rfl
 simp -implicitDefEqProofs [hz]; have h1 : Ctr prog 192 [.d (.str s), .d (.int .u8 32)] (.d (.str (S8 32 s))) := c4z s 32 hs; have h2 : Ctr prog 191 [.d (.str (S8 32 s)), .d (.int .u8 32)] (.d (.str (J1 s))) := c4h (S8 32 s) 32; refine E4 h1 ?_; simp -implicitDefEqProofs [hz]; refine E4 h2 ?_; simp -implicitDefEqProofs [hz]
theorem a9r (s : Str) (hs : length s < 1000000) : Ctr prog 110 [.d (.str s)] (.d (.str (J1 s))) := by
 refine fv (fun _ => false) func110 (by kernel_rfl) rfl rfl rfl rfl rfl ?_; simp -implicitDefEqProofs; refine A3 (b9D s hs) ?_; simp -implicitDefEqProofs
def a2F (s : Str) : Bool := s.all a1w && decide (s ≠ []) && decide (length s ≤ 256) && decide (J1 s = s)
theorem c7q {s : Str} {k : Nat} (h : k < length s) (hc : s[k].toNat < 128) : Go.Utf8.decode ⟨s.toArray⟩ k = (s[k].toNat, 1) := by
 have hb : k < (⟨s.toArray⟩ : ByteArray).size := (by simpa [ByteArray.size] using h); have e : (⟨s.toArray⟩ : ByteArray)[k]'hb = s[k] := rfl; have := decode_ascii ⟨s.toArray⟩ k hb (by rw [e]; exact hc); rw [e] at this; exact this
theorem c8d {s : Str} {k : Nat} (h : k < length s) (hc : 128 ≤ s[k].toNat) : 128 ≤ (Go.Utf8.decode ⟨s.toArray⟩ k).1 := by
 have hb : k < (⟨s.toArray⟩ : ByteArray).size := (by simpa [ByteArray.size] using h); have e : (⟨s.toArray⟩ : ByteArray)[k]'hb = s[k] := rfl; exact (decode_high ⟨s.toArray⟩ k hb (by rw [e]; exact hc)).1
theorem b1j (c : UInt8) (s : Str) : length (Y5 c s) ≤ length s := (dropWhile_sublist _).length_le
theorem b1n (c : UInt8) (s : Str) : length (S8 c s) ≤ length s := by
 have := (dropWhile_sublist (fun x : UInt8 => decide (x = c)) (l := s.reverse)).length_le; simpa [S8] using this
theorem c1c {s : Str} (h : 0 < length s) : J1 s = s ↔ s[0] ≠ 32 ∧ s[length s - 1] ≠ 32 := by
 constructor
 · intro e; have h1 := b1j 32 (S8 32 s); have h2 := b1n 32 s; have h3 : length (J1 s) = length s := by rw [e]
   rw [J1] at h3; have hr : s[length s - 1] ≠ 32 := by
     intro h4; rw [a3A h, if_pos h4] at h3 h1; have h5 := b1n 32 (s.take (length s - 1)); rw [length_take] at h5; omega
   refine ⟨fun h4 => ?_, hr⟩; rw [J1, a3A h, if_neg hr] at e; cases s with
   | nil => simp at h
   | cons x t =>
     simp only [getElem_cons_zero] at h4; rw [Y5, dropWhile_cons, if_pos (by simp [h4])] at e; have := b1j 32 t; rw [Y5, e, length_cons] at this; omega
 · rintro ⟨h1, h2⟩; rw [J1, a3A h, if_neg h2]; cases s with
   | nil => rfl
   | cons x t => rw [Y5, dropWhile_cons, if_neg (by simpa using h1)]
theorem a7B (s : Str) : a2F s = S3 s := by
 by_cases h : 0 < length s
 · have hne : s ≠ [] := fun e => by subst e; simp at h
   have hh : s.head? = some s[0] := (by simp [head?_eq_getElem?, h]); have hl : s.getLast? = some s[length s - 1] := by rw [getLast?_eq_getElem?, getElem?_eq_getElem (by omega)]
   rw [Bool.eq_iff_iff]; simp only [a2F, S3, Bool.and_eq_true, decide_eq_true_eq, c1c h, hh, hl, bne_iff_ne, ne_eq, Option.some.injEq]; have : 1 ≤ length s := h; constructor
   · rintro ⟨⟨⟨a, b⟩, c⟩, d, e⟩; exact ⟨⟨⟨⟨this, c⟩, d⟩, e⟩, a⟩
   · rintro ⟨⟨⟨⟨_, c⟩, d⟩, e⟩, a⟩; exact ⟨⟨⟨a, hne⟩, c⟩, d, e⟩
 · obtain rfl : s = [] := eq_nil_of_length_eq_zero (by omega); rfl
theorem a8f (s : Str) (hs : length s < 1000000) : Ctr prog 57 [.d (.str s)] (.d (.bool (a2F s))) := by
 refine fv (fun _ => false) func57 (by kernel_rfl) rfl rfl rfl rfl rfl ?_; simp -implicitDefEqProofs; refine G7 (length s) (fun k τ => τ 0 = .d (.str s) ∧ τ 6 = .iter s k ∧ ∀ x ∈ s.take k, a1w x = true) (by simp) ?_; rintro k τ hk ⟨h0, h6, hall⟩; by_cases hlt : k < length s
 · by_cases ha : s[k].toNat < 128
   · have hd := c7q hlt ha; by_cases e1 : (s[k].toNat : Int) < 32
     · have e1' : ¬ 32 ≤ (s[k].toNat : Int) := (by omega); simp -implicitDefEqProofs [h0, h6, hlt, hd, e1]; simp [a2F, b2E hlt (show a1w s[k] = false by simp [a1w, e1'])]
     · by_cases e2 : 126 < (s[k].toNat : Int)
       · have e2' : ¬ (s[k].toNat : Int) ≤ 126 := (by omega); simp -implicitDefEqProofs [h0, h6, hlt, hd, e1, e2]; simp [a2F, b2E hlt (show a1w s[k] = false by simp [a1w, e2'])]
       · have e1' : 32 ≤ (s[k].toNat : Int) := (by omega); have e2' : (s[k].toNat : Int) ≤ 126 := (by omega); simp -implicitDefEqProofs [h0, h6, hlt, hd, e1, e2]; exact D5 hlt ⟨by simp [h0], by simp, b5X hlt hall (by simp [a1w, e1', e2'])⟩
   · have hd := c8d hlt (by omega); have e1 : ¬ ((Go.Utf8.decode ⟨s.toArray⟩ k).1 : Int) < 32 := (by omega); have e2 : 126 < ((Go.Utf8.decode ⟨s.toArray⟩ k).1 : Int) := (by omega); have e2' : ¬ (s[k].toNat : Int) ≤ 126 := (by omega); simp -implicitDefEqProofs [h0, h6, hlt, e1, e2]; simp [a2F, b2E hlt (show a1w s[k] = false by simp [a1w, e2'])]
 · rw [ttl (by omega)] at hall; have hall' : s.all a1w = true := all_eq_true.2 hall; by_cases hz : s = []
   · subst hz; simp -implicitDefEqProofs [h0, h6, a2F]
   · by_cases h2 : (length s : Int) ≤ 256
     · have h2' : length s ≤ 256 := (by omega); simp -implicitDefEqProofs [h0, h6, hlt, hz, h2]; refine A3 (a9r s hs) ?_; simp -implicitDefEqProofs [h0, h6, hlt, hz, h2, a2F, hall', h2']
     · have h2' : ¬ length s ≤ 256 := (by omega); simp -implicitDefEqProofs [h0, h6, hlt, hz, h2, a2F, h2']
end Go.Proofs.Tz
namespace Go.Proofs.Tz
open Go.Vw Go.RowKit Go.Proofs
def X1 (c : UInt8) : Bool := decide (c = 44) || decide (c = 61) || decide (c = 43) || decide (c = 92)
def G2 (c : UInt8) : Str → Nat
 | [] => 0
 | [x] => if x = c then 0 else 1
 | x :: y :: r => if x = c then 0 else if x = 92 then 2 + G2 c r else 1 + G2 c (y :: r)
def a1Q : Nat → Str → List Str
 | 0, s => [s]
 | n + 1, s => if G2 44 s < s.length then s.take (G2 44 s) :: a1Q n (s.drop (G2 44 s + 1)) else [s]
def Q2 (s : Str) : List Str := a1Q s.length s
theorem b1N : ∀ (n m : Nat) (s : Str), s.length ≤ n → s.length ≤ m → a1Q n s = a1Q m s
 | 0, 0, _, _, _ => rfl
 | 0, m + 1, s, h, _ => by
   have : s = [] := length_eq_zero_iff.1 (by omega); subst this; simp [a1Q]
 | n + 1, 0, s, _, h => by
   have : s = [] := length_eq_zero_iff.1 (by omega); subst this; simp [a1Q]
 | n + 1, m + 1, s, h1, h2 => by
   simp only [a1Q]; split
   · rw [b1N n m _ (by simp only [length_drop]; omega) (by simp only [length_drop]; omega)]
   · rfl
theorem a6Z {s : Str} (h : G2 44 s < s.length) : Q2 s = s.take (G2 44 s) :: Q2 (s.drop (G2 44 s + 1)) := by
 obtain ⟨n, hn⟩ : ∃ n, s.length = n + 1 := ⟨s.length - 1, by omega⟩; rw [Q2, hn, a1Q, if_pos h, Q2, b1N n _ _ (by simp only [length_drop]; omega) (Nat.le_refl _)]
theorem a3K {s : Str} (h : ¬ G2 44 s < s.length) : Q2 s = [s] := by
 rw [Q2]; cases s.length with
 | zero => rfl
 | succ n => rw [a1Q, if_neg h]
def P7 : Str → Option Str
 | [] => some []
 | [x] => if x = 92 then none else if X1 x = true then none else some [x]
 | x :: y :: r => if x = 92 then (if X1 y = true then (P7 r).map (y :: ·) else none) else if X1 x = true then none else (P7 (y :: r)).map (x :: ·)
def NoU (c : UInt8) : Str → Prop
 | [] => True
 | [x] => x ≠ c
 | x :: y :: r => x ≠ c ∧ if x = 92 then NoU c r else NoU c (y :: r)
theorem NoU.before {c : UInt8} : ∀ {s : Str}, NoU c (s.take (G2 c s))
 | [] => by simp [NoU]
 | [x] => by
   simp only [G2]; split
   · simp [NoU]
   · rename_i h; simpa [NoU] using h
 | x :: y :: r => by
   simp only [G2]; by_cases h1 : x = c
   · simp [h1, NoU]
   · rw [if_neg h1]; by_cases h2 : x = 92
     · rw [if_pos h2]; have e : 2 + G2 c r = G2 c r + 2 := (by omega); rw [e]; refine ⟨h1, ?_⟩; rw [if_pos h2]; exact NoU.before
     · rw [if_neg h2]; have ih := NoU.before (c := c) (s := y :: r); have e : 1 + G2 c (y :: r) = G2 c (y :: r) + 1 := (by omega); rw [e, take_succ_cons]; generalize take (G2 c (y :: r)) (y :: r) = t at *; cases t with
       | nil => exact h1
       | cons z t => exact ⟨h1, by rw [if_neg h2]; exact ih⟩
abbrev G3 := Str × Str
def P2 (p : G3) : D := .agg [.str p.1, .str p.2]
def K7 (l : List G3) : D := .sl (l.map P2)
def W0 (s : Str) : G3 × Int :=
 if G2 61 s < s.length then
   (match P7 (J1 (s.drop (G2 61 s + 1))) with
    | none => (([], []), 4)
    | some v => if U1 (J1 (s.take (G2 61 s))) = false then (([], []), 5) else if S3 v = false then (([], []), 8) else ((J1 (s.take (G2 61 s)), v), 0))
 else (([], []), 4)
def R0 (out : List G3) : List Str → List G3 × Int
 | [] => if 8 < out.length then ([], 3) else (out, 0)
 | p :: ps => if (W0 p).2 = 0 then R0 (out ++ [(W0 p).1]) ps else ([], (W0 p).2)
def E8 (s : Str) : List G3 × Int := if s = [] then ([], 0) else R0 [] (Q2 s)
def sqz (prev : UInt8) : Str → Str
 | [] => []
 | x :: r => if x = 32 ∧ prev = 32 then sqz x r else x :: sqz x r
def Y0 (s : Str) : Str := sqz 0 (D9 (J1 s))
def S2 (s : Str) : Str := s.flatMap fun c => if X1 c = true then [92, c] else [c]
def W5 (p : G3) : Str := D9 p.1 ++ 61 :: S2 (Y0 p.2)
def V9 (p : G3) : Int := if U1 p.1 = false then 5 else if S3 p.2 = false then 8 else 0
def a0E : List G3 → Int
 | [] => 0
 | p :: l => if V9 p = 0 then a0E l else V9 p
def a0c (l : List G3) : Int := if a0E l = 0 then (if 8 < l.length then 3 else 0) else a0E l
def I2 (l : List G3) : Str × Int := if a0c l = 0 then (D8 44 (l.map W5), 0) else ([], a0c l)
def M4 (s : Str) : Option (List G3) := if (E8 s).2 = 0 ∧ I2 (E8 s).1 = (s, 0) then some (E8 s).1 else none
def L5 (s : Str) : Bool := (M4 s).isSome
def CU : Str → Prop
 | [] => True
 | [x] => x ≠ 92 ∧ x ≠ 44
 | x :: y :: r => x ≠ 44 ∧ if x = 92 then CU r else CU (y :: r)
theorem CU.next : ∀ {p : Str}, CU p → ∀ (r : Str), G2 44 (p ++ 44 :: r) = p.length
 | [], _, r => by cases r <;> simp [G2]
 | [x], h, r => by
   simp only [CU] at h; have i := CU.next (p := []) trivial r; simp only [nil_append] at i; simp [G2, h.1, h.2, i]
 | x :: y :: t, h, r => by
   simp only [CU] at h; by_cases h2 : x = 92
   · rw [if_pos h2] at h; have i := CU.next h.2 r; simp only [cons_append, G2, if_neg h.1, if_pos h2, i, length_cons]; omega
   · rw [if_neg h2] at h; have i := CU.next h.2 r; simp only [cons_append] at i; simp only [cons_append, G2, if_neg h.1, if_neg h2, i, length_cons]; omega
theorem CU.all : ∀ {p : Str}, CU p → G2 44 p = p.length
 | [], _ => by simp [G2]
 | [x], h => by simp only [CU] at h; simp [G2, h.2]
 | x :: y :: t, h => by
   simp only [CU] at h; by_cases h2 : x = 92
   · rw [if_pos h2] at h; have i := CU.all h.2; simp only [G2, if_neg h.1, if_pos h2, i, length_cons]; omega
   · rw [if_neg h2] at h; have i := CU.all h.2; simp only [G2, if_neg h.1, if_neg h2, i, length_cons]; omega
theorem CU.cons {x : UInt8} {s : Str} (h1 : x ≠ 92) (h2 : x ≠ 44) (h : CU s) : CU (x :: s) := by
 cases s with
 | nil => exact ⟨h1, h2⟩
 | cons y r => exact ⟨h2, by rw [if_neg h1]; exact h⟩
theorem CU.esc {y : UInt8} {s : Str} (h : CU s) : CU (92 :: y :: s) := ⟨by decide, by rw [if_pos rfl]; exact h⟩
theorem CU.escV : ∀ (s : Str), CU (S2 s)
 | [] => trivial
 | c :: s => by
   have ih := CU.escV s; have e : Tz.S2 (c :: s) = (if X1 c = true then [92, c] else [c]) ++ Tz.S2 s := (by simp [Tz.S2]); rw [e]; by_cases h : X1 c = true
   · rw [if_pos h]; exact ih.esc
   · rw [if_neg h]; refine ih.cons ?_ ?_
     · rintro rfl; exact h (by decide)
     · rintro rfl; exact h (by decide)
theorem CU.pre : ∀ {a : Str} {b : Str}, (∀ x ∈ a, x ≠ 92 ∧ x ≠ 44) → CU b → CU (a ++ b)
 | [], b, _, h => h
 | x :: a, b, hx, h => CU.cons (hx x (by simp)).1 (hx x (by simp)).2 (CU.pre (fun y hy => hx y (by simp [hy])) h)
theorem c2P {c : UInt8} (h : a1M c = true) : c ≠ 92 ∧ c ≠ 44 ∧ c ≠ 61 := by
 refine ⟨?_, ?_, ?_⟩ <;> (rintro rfl; revert h; decide)
theorem c0s {c : UInt8} (h : a1M c = true) : a1M (a1I c) = true := by
 by_cases h1 : 65 ≤ (c.toNat : Int) ∧ (c.toNat : Int) ≤ 90
 · have := a4p c h1.1 h1.2; simp only [a1M, a3d, Bool.or_eq_true, Bool.and_eq_true, decide_eq_true_eq]
   left; left; left
   omega
 · rw [a1I, if_neg h1]; exact h
theorem b7A {p : G3} (h : U1 p.1 = true) : CU (W5 p) := by
 refine CU.pre (fun x hx => ?_) ((CU.escV _).cons (by decide) (by decide)); simp only [D9, mem_map] at hx; obtain ⟨c, hc, rfl⟩ := hx; simp only [U1, Bool.and_eq_true, all_eq_true] at h; have := c2P (c0s (h.2 c hc)); exact ⟨this.1, this.2.1⟩
theorem b8a (p : G3) : W5 p ≠ [] := by simp [W5]
theorem a5G : ∀ {l : List Str}, l ≠ [] → (∀ p ∈ l, CU p) → Q2 (D8 44 l) = l
 | [], h, _ => absurd rfl h
 | [p], _, h => by
   simp only [D8]; exact a3K (by rw [(h p (by simp)).all]; omega)
 | p :: q :: l, _, h => by
   have hp := h p (by simp); have ih := a5G (l := q :: l) (by simp) (fun x hx => h x (by simp at hx ⊢; right; exact hx)); have e : D8 44 (p :: q :: l) = p ++ 44 :: D8 44 (q :: l) := rfl; have hn := hp.next (D8 44 (q :: l)); rw [e, a6Z (by rw [hn]; simp), hn]; have e1 : take p.length (p ++ 44 :: D8 44 (q :: l)) = p := (by simp); have e2 : drop (p.length + 1) (p ++ 44 :: D8 44 (q :: l)) = D8 44 (q :: l) := by rw [← drop_drop]; simp
   rw [e1, e2, ih]
theorem b4W {l : List Str} (h : l ≠ []) (hn : ∀ p ∈ l, p ≠ []) : D8 44 l ≠ [] := by
 match l, h with
 | [p], _ => exact hn p (by simp)
 | p :: q :: l, _ => simp [D8]
def NP (p : G3) : Prop := W0 (W5 p) = (p, 0)
theorem a6A {s : Str} {p : G3} (h : W0 s = (p, 0)) : U1 p.1 = true ∧ S3 p.2 = true := by
 unfold W0 at h; split at h
 · split at h
   · simp at h
   · split at h
     · simp at h
     · split at h
       · simp at h
       · rename_i h1 h2
         simp only [Prod.mk.injEq, and_true] at h; obtain ⟨rfl⟩ := h; exact ⟨by simpa using h1, by simpa using h2⟩
 · simp at h
theorem NP.pairE {p : G3} (h : NP p) : V9 p = 0 := by
 have := a6A h; simp [Tz.V9, this.1, this.2]
theorem a3E {l : List G3} : a0E l = 0 ↔ ∀ p ∈ l, V9 p = 0 := by
 induction l with
 | nil => simp [a0E]
 | cons p l ih =>
   simp only [a0E, mem_cons, forall_eq_or_imp]; by_cases h : V9 p = 0
   · simp [h, ih]
   · simp [h]
theorem b2a : ∀ {ps : List Str} {qs out : List G3}, ps.length = qs.length → (∀ i (h1 : i < ps.length) (h2 : i < qs.length), W0 ps[i] = (qs[i], 0)) → R0 out ps = if 8 < (out ++ qs).length then ([], 3) else (out ++ qs, 0)
 | [], [], out, _, _ => by simp [R0]
 | p :: ps, q :: qs, out, hl, h => by
   have h0 := h 0 (by simp) (by simp); simp only [getElem_cons_zero] at h0; have ih := b2a (ps := ps) (qs := qs) (out := out ++ [q]) (by simpa using hl) (fun i h1 h2 => by
     have := h (i + 1) (by simpa using h1) (by simpa using h2); simpa using this)
   simp only [R0, h0, if_true, ih, append_assoc, singleton_append]
 | [], _ :: _, _, hl, _ => by simp at hl
 | _ :: _, [], _, hl, _ => by simp at hl
theorem a6C : ∀ {ps : List Str} {out r : List G3}, R0 out ps = (r, 0) → ∃ qs, r = out ++ qs ∧ ps.length = qs.length ∧ r.length ≤ 8 ∧ ∀ i (h1 : i < ps.length) (h2 : i < qs.length), W0 ps[i] = (qs[i], 0)
 | [], out, r, h => by
   simp only [R0] at h; split at h
   · simp at h
   · rename_i h8
     simp only [Prod.mk.injEq, and_true] at h; subst h; exact ⟨[], by simp, rfl, by omega, fun i h1 => by simp at h1⟩
 | p :: ps, out, r, h => by
   simp only [R0] at h; split at h
   · rename_i h0
     obtain ⟨qs, hr, hl, h8, hq⟩ := a6C h; refine ⟨(W0 p).1 :: qs, by rw [hr]; simp, by simp [hl], h8, fun i h1 h2 => ?_⟩; cases i with
     | zero => simp only [getElem_cons_zero]; rw [← h0]
     | succ i => simpa using hq i (by simpa using h1) (by simpa using h2)
   · rename_i h0
     simp only [Prod.mk.injEq] at h; exact absurd h.2 h0
theorem c3p {l : List G3} (hn : ∀ p ∈ l, NP p) (h8 : l.length ≤ 8) : I2 l = (D8 44 (l.map W5), 0) ∧ M4 (D8 44 (l.map W5)) = some l := by
 have hE : a0E l = 0 := a3E.2 fun p hp => (hn p hp).pairE
 have hf : I2 l = (D8 44 (l.map W5), 0) := by
   have hc : a0c l = 0 := by rw [a0c, if_pos hE, if_neg (by omega)]
   rw [I2, if_pos hc]
 have hp : E8 (D8 44 (l.map W5)) = (l, 0) := by
   unfold E8; by_cases h : l = []
   · subst h; rfl
   · rw [if_neg (b4W (by simpa using h) (by simp only [mem_map]; rintro _ ⟨p, _, rfl⟩; exact b8a p)), a5G (by simpa using h) (by simp only [mem_map]; rintro _ ⟨p, hp, rfl⟩; exact b7A (a6A (hn p hp)).1)]; rw [b2a (qs := l) (by simp) (fun i h1 h2 => by rw [getElem_map]; exact hn l[i] (gmm h2))]; simp only [nil_append]; rw [if_neg (by omega)]
 exact ⟨hf, by rw [M4, hp, if_pos ⟨rfl, hf⟩]⟩
theorem a2x {s : Str} {l : List G3} (h : M4 s = some l) : (∀ p ∈ l, NP p) ∧ l.length ≤ 8 ∧ s = D8 44 (l.map W5) ∧ E8 s = (l, 0) ∧ I2 l = (s, 0) := by
 unfold M4 at h; split at h
 · rename_i hh
   obtain ⟨h0, hf⟩ := hh; simp only [Option.some.injEq] at h; subst h; have hs : s = D8 44 ((E8 s).1.map W5) := by
     unfold I2 at hf; split at hf
     · simp only [Prod.mk.injEq, and_true] at hf; exact hf.symm
     · rename_i hc
       simp only [Prod.mk.injEq] at hf; exact absurd hf.2 hc
   have hchk : a0E (E8 s).1 = 0 ∧ (E8 s).1.length ≤ 8 := by
     unfold I2 at hf; split at hf
     · rename_i hc
       unfold a0c at hc; split at hc
       · rename_i he
         split at hc
         · simp at hc
         · exact ⟨he, by omega⟩
       · rename_i he; exact absurd hc he
     · rename_i hc
       simp only [Prod.mk.injEq] at hf; exact absurd hf.2 hc
   have hP : E8 s = ((E8 s).1, 0) := by rw [← h0]
   refine ⟨fun p hp => ?_, hchk.2, hs, hP, hf⟩; generalize hl : (E8 s).1 = l at *; by_cases hnil : l = []
   · subst hnil; simp at hp
   · have hnm : ∀ q ∈ l, U1 q.1 = true := fun q hq => by
       have := (a3E.1 hchk.1) q hq; unfold V9 at this; split at this
       · simp at this
       · rename_i h1; simpa using h1
     have hsn : s ≠ [] := by
       rw [hs]; exact b4W (by simpa using hnil) (by simp only [mem_map]; rintro _ ⟨p, _, rfl⟩; exact b8a p)
     have hpc : Q2 s = l.map W5 := by
       rw [hs]; exact a5G (by simpa using hnil) (by simp only [mem_map]; rintro _ ⟨q, hq, rfl⟩; exact b7A (hnm q hq))
     rw [E8, if_neg hsn, hpc] at hP; obtain ⟨qs, hr, hlen, _, hq⟩ := a6C hP; simp only [nil_append] at hr; subst hr; obtain ⟨i, hi, rfl⟩ := getElem_of_mem hp; have := hq i (by simpa using hi) hi; rw [getElem_map] at this; exact this
 · cases h
theorem b3R {s t : Str} {l : List G3} (h1 : M4 s = some l) (h2 : M4 t = some l) : s = t := by rw [(a2x h1).2.2.1, (a2x h2).2.2.1]
theorem c1M {s t : Str} {l m : List G3} (h1 : M4 s = some l) (h2 : M4 t = some m) {n : List G3} (hn : ∀ p ∈ n, p ∈ l ∨ p ∈ m) (h8 : n.length ≤ 8) : I2 n = (D8 44 (n.map W5), 0) ∧ M4 (D8 44 (n.map W5)) = some n :=
 c3p (fun p hp => by
   rcases hn p hp with h | h
   · exact (a2x h1).1 p h
   · exact (a2x h2).1 p h) h8
def a3X (s : Str) : Nat := ((M4 s).getD []).length
abbrev Chg := Csn × Int × Str × Str × Str × Str
def A6 (c : Chg) : D := .agg [B0 c.1, .int .i64 c.2.1, .str c.2.2.1, .str c.2.2.2.1, .str c.2.2.2.2.1, .str c.2.2.2.2.2]
def E6 (l : List Chg) : D := .sl (l.map A6)
structure O8 (c : Chg) : Prop where
 id : length c.2.2.1 < 900000
 name : length c.2.2.2.1 < 900000
 attr : length c.2.2.2.2.1 < 900000
 value : length c.2.2.2.2.2 < 900000
def F7 (op : Int) : Bool := decide (op = 1) || decide (op = 3)
def F3 (op : Int) : Bool := decide (op = 4) || decide (op = 5)
def J4 (c : Chg) : Bool := (!F7 c.2.1 && decide (c.2.2.2.1 ≠ [])) || (!F3 c.2.1 && (decide (c.2.2.2.2.1 ≠ []) || decide (c.2.2.2.2.2 ≠ [])))
def J5 (c : Chg) : Bool := (F7 c.2.1 && (decide (c.2.2.2.1 = []) || !L5 c.2.2.2.1)) || (F3 c.2.1 && (!U1 c.2.2.2.2.1 || decide (D9 c.2.2.2.2.1 ≠ c.2.2.2.2.1)))
def F4 (c : Chg) : Int :=
 if U3 c.1 = false ∨ c.2.1 < 1 ∨ 5 < c.2.1 then 2
 else if (P0 c.2.2.1).2 ≠ 0 ∨ J4 c = true then 4
 else if J5 c = true then 5
 else if F3 c.2.1 = true ∧ S3 c.2.2.2.2.2 = false then 8 else 0
abbrev o1W : Str := [99, 114, 101, 97, 116, 101]
abbrev o2W : Str := [114, 101, 109, 111, 118, 101]
abbrev o3W : Str := [114, 101, 110, 97, 109, 101]
abbrev o4W : Str := [112, 117, 116]
abbrev o5W : Str := [100, 114, 111, 112]
def opW (x : Int) : Str := if x = 1 then o1W else if x = 2 then o2W else if x = 3 then o3W else if x = 4 then o4W else if x = 5 then o5W else []
def opV (w : Str) : Int := if w = o1W then 1 else if w = o2W then 2 else if w = o3W then 3 else if w = o4W then 4 else if w = o5W then 5 else 0
theorem c6A {x : Int} (h1 : 1 ≤ x) (h5 : x ≤ 5) : opV (opW x) = x := by
 have : x = 1 ∨ x = 2 ∨ x = 3 ∨ x = 4 ∨ x = 5 := (by omega); rcases this with rfl | rfl | rfl | rfl | rfl <;> decide
def a2Q (c : Chg) : List Str :=
 if F7 c.2.1 = true then [opW c.2.1, I1 c.1, c.2.2.1, Q6 c.2.2.2.1]
 else if F3 c.2.1 = true then [opW c.2.1, I1 c.1, c.2.2.1, Q6 c.2.2.2.2.1, Q6 c.2.2.2.2.2]
 else [opW c.2.1, I1 c.1, c.2.2.1]
def J7 (c : Chg) : Str := D8 32 (a2Q c)
def G6 (c : Chg) : Str × Int := if F4 c = 0 then (J7 c, 0) else ([], F4 c)
def c4e (s : Str) (e : Int) (c : Chg) : Option Chg := if e = 0 ∧ F4 c = 0 ∧ J7 c = s then some c else none
def b8K (s : Str) : List Str → Option Chg
 | [a, b, i] => c4e s (P0 b).2 ((P0 b).1, opV a, i, [], [], [])
 | [a, b, i, n] => c4e s (P0 b).2 ((P0 b).1, opV a, i, (a6b n).1, [], [])
 | [a, b, i, x, y] => c4e s (P0 b).2 ((P0 b).1, opV a, i, [], (a6b x).1, (a6b y).1)
 | _ => none
def c4Z (s : Str) : Option Chg := b8K s (a1e 32 s)
def M3 : Chg := ((0, 0, 0), 0, [], [], [], [])
structure OkC (c : Chg) : Prop where
 num : U3 c.1 = true
 op1 : 1 ≤ c.2.1
 op5 : c.2.1 ≤ 5
 id : (P0 c.2.2.1).2 = 0
 used : J4 c = false
 name : J5 c = false
 value : ¬ (F3 c.2.1 = true ∧ S3 c.2.2.2.2.2 = false)
theorem a1x {c : Chg} : F4 c = 0 ↔ OkC c := by
 unfold F4; constructor
 · intro h; split at h
   · cases h
   · rename_i h1
     split at h
     · cases h
     · rename_i h2
       split at h
       · cases h
       · rename_i h3
         split at h
         · cases h
         · rename_i h4
           simp only [not_or, Bool.not_eq_false, Int.not_lt] at h1; simp only [not_or, Classical.not_not, Bool.not_eq_true, ne_eq] at h2; exact ⟨h1.1, h1.2.1, h1.2.2, h2.1, h2.2, by simpa using h3, h4⟩
 · rintro ⟨a, b, c', d, e, f, g⟩; rw [if_neg (by rw [a]; simp; omega), if_neg (by rw [d, e]; simp), if_neg (by rw [f]; simp), if_neg g]
theorem a6v : (32 : UInt8) ∉ J9 ∧ (10 : UInt8) ∉ J9 := by decide
theorem c9C {s : Str} (h : (P0 s).2 = 0) {d : UInt8} (hd : d = 32 ∨ d = 10) : d ∉ s := by
 have h1 : P0 s = ((P0 s).1, 0) := by rw [← h]
 have h2 := (a7A h1).1; rw [← h2]; rcases hd with rfl | rfl
 · exact a4s a6v.1 (by decide) (by decide)
 · exact a4s a6v.2 (by decide) (by decide)
theorem c7N {x : Int} {d : UInt8} (hd : d = 32 ∨ d = 10) : d ∉ opW x := by
 unfold opW; rcases hd with rfl | rfl
 all_goals
   split
   · decide
   · split
     · decide
     · split
       · decide
       · split
         · decide
         · split <;> decide
theorem c2m {c : Chg} (h : OkC c) {d : UInt8} (hd : d = 32 ∨ d = 10) : ∀ w ∈ a2Q c, d ∉ w := by
 have hf : d ∉ I1 c.1 := by
   rcases hd with rfl | rfl
   · exact a4s a6v.1 (by decide) (by decide)
   · exact a4s a6v.2 (by decide) (by decide)
 have hi := c9C h.id hd; have ho := c7N (x := c.2.1) hd; have he : ∀ s, d ∉ Q6 s := fun s => by
   rcases hd with rfl | rfl
   · exact c0G s
   · exact c0A s
 unfold a2Q; intro w hw; split at hw
 · simp only [mem_cons, not_mem_nil, or_false] at hw; rcases hw with rfl | rfl | rfl | rfl
   · exact ho
   · exact hf
   · exact hi
   · exact he _
 · split at hw
   · simp only [mem_cons, not_mem_nil, or_false] at hw; rcases hw with rfl | rfl | rfl | rfl | rfl
     · exact ho
     · exact hf
     · exact hi
     · exact he _
     · exact he _
   · simp only [mem_cons, not_mem_nil, or_false] at hw; rcases hw with rfl | rfl | rfl
     · exact ho
     · exact hf
     · exact hi
theorem b1W (s : Str) : (a6b (Q6 s)).1 = s := by rw [b7r (c0X s)]
theorem c1Z (c : Chg) : a2Q c ≠ [] := by unfold a2Q; split <;> (try split) <;> simp
theorem b1w {c : Chg} (h : F4 c = 0) : c4Z (J7 c) = some c := by
 have ho := a1x.1 h; have hs := b0S (c := 32) (c1Z c) (c2m ho (.inl rfl)); have hp := b6y ho.num; have hv := c6A ho.op1 ho.op5; have hu := ho.used; have hl : J7 c = D8 32 (a2Q c) := rfl; rw [c4Z]; rw [← hl] at hs; rw [hs]; obtain ⟨n, op, id, nm, at_, va⟩ := c; simp only [J4, Bool.or_eq_false_iff, Bool.and_eq_false_iff, Bool.not_eq_false', decide_eq_false_iff_not, Classical.not_not, ne_eq] at hu; simp only at hp hv; unfold a2Q; by_cases h1 : F7 op = true
 · have h2 : F3 op = false := by
     simp only [F7, F3, Bool.or_eq_true, decide_eq_true_eq, Bool.or_eq_false_iff, decide_eq_false_iff_not] at h1 ⊢; omega
   obtain ⟨e1, e2⟩ : at_ = [] ∧ va = [] := by
     rcases hu.2 with e | e
     · rw [h2] at e; cases e
     · exact e
   subst e1; subst e2; simp only [h1, if_true, b8K, hp, hv, b1W]; exact if_pos ⟨rfl, h, rfl⟩
 · have h1' : F7 op = false := (by simpa using h1); obtain rfl : nm = [] := by
     rcases hu.1 with e | e
     · rw [h1'] at e; cases e
     · exact e
   by_cases h2 : F3 op = true
   · simp only [h1', h2, Bool.false_eq_true, if_false, if_true, b8K, hp, hv, b1W]; exact if_pos ⟨rfl, h, rfl⟩
   · have h2' : F3 op = false := (by simpa using h2); obtain ⟨e1, e2⟩ : at_ = [] ∧ va = [] := by
       rcases hu.2 with e | e
       · rw [h2'] at e; cases e
       · exact e
     subst e1; subst e2; simp only [h1', h2', Bool.false_eq_true, if_false, b8K, hp, hv]; exact if_pos ⟨rfl, h, rfl⟩
theorem a5x {c d : Chg} (h1 : F4 c = 0) (h2 : F4 d = 0) (h : J7 c = J7 d) : c = d := by
 have a := b1w h1; rw [h, b1w h2] at a; exact (Option.some.inj a).symm
structure a0h (S R : List Chg) : Prop where
 asc : R.Pairwise fun a b => H8 a.1 b.1 < 0
 mem : ∀ r, r ∈ R ↔ (r ∈ S ∧ F4 r = 0 ∧ ∀ r' ∈ S, F4 r' = 0 → r'.1 = r.1 → J7 r ≤ J7 r')
theorem T6 (a : Csn) : H8 a a = 0 := T5.2 rfl
theorem c5O {R R' : List Chg} (h1 : R.Pairwise fun a b => H8 a.1 b.1 < 0) (h2 : R'.Pairwise fun a b => H8 a.1 b.1 < 0) (h : ∀ r, r ∈ R ↔ r ∈ R') : R = R' := by
 have n1 : R.Nodup := h1.imp fun {a b} hab e => by rw [e, T6] at hab; omega
 have n2 : R'.Nodup := h2.imp fun {a b} hab e => by rw [e, T6] at hab; omega
 have hp := (perm_ext_iff_of_nodup n1 n2).2 h; refine Perm.eq_of_pairwise (le := fun a b => H8 a.1 b.1 < 0) (fun a b _ _ x y => ?_) h1 h2 hp; have := W3 a.1 b.1; omega
theorem a0h.uniq {S S' R R' : List Chg} (h : a0h S R) (h' : a0h S' R') (hS : ∀ r, r ∈ S ↔ r ∈ S') : R = R' := by
 refine c5O h.asc h'.asc fun r => ?_
 rw [h.mem, h'.mem, hS]; simp only [hS]
theorem a0h.has {S R : List Chg} (h : a0h S R) : ∀ {r : Chg}, r ∈ S → F4 r = 0 → ∃ x ∈ R, x.1 = r.1 ∧ J7 x ≤ J7 r := by
 have key : ∀ (T : List Chg) (r : Chg), (∀ t ∈ T, t ∈ S) → r ∈ S → F4 r = 0 → ∃ x ∈ S, F4 x = 0 ∧ x.1 = r.1 ∧ J7 x ≤ J7 r ∧ ∀ t ∈ T, F4 t = 0 → t.1 = r.1 → J7 x ≤ J7 t := by
   intro T
   induction T with
   | nil => intro r _ hr hc; exact ⟨r, hr, hc, rfl, List.le_refl _, by simp⟩
   | cons t T ih =>
     intro r hT hr hc; obtain ⟨x, hx, hxc, hx1, hxl, hxm⟩ := ih r (fun y hy => hT y (by simp [hy])) hr hc; by_cases ht : F4 t = 0 ∧ t.1 = r.1
     · rcases List.le_total (J7 x) (J7 t) with hle | hle
       · exact ⟨x, hx, hxc, hx1, hxl, fun y hy hyc hy1 => by
           rcases mem_cons.1 hy with rfl | hy
           · exact hle
           · exact hxm y hy hyc hy1⟩
       · exact ⟨t, hT t (by simp), ht.1, ht.2, List.le_trans hle hxl, fun y hy hyc hy1 => by
           rcases mem_cons.1 hy with rfl | hy
           · exact List.le_refl _
           · exact List.le_trans hle (hxm y hy hyc hy1)⟩
     · exact ⟨x, hx, hxc, hx1, hxl, fun y hy hyc hy1 => by
         rcases mem_cons.1 hy with rfl | hy
         · exact absurd ⟨hyc, hy1⟩ ht
         · exact hxm y hy hyc hy1⟩
 intro r hr hc; obtain ⟨x, hx, hxc, hx1, hxl, hxm⟩ := key S r (fun _ h => h) hr hc; exact ⟨x, (h.mem x).2 ⟨hx, hxc, fun t ht htc ht1 => hxm t ht htc (by rw [ht1, hx1])⟩, hx1, hxl⟩
def a0Y (c : Chg) : Bool → List Chg → List Chg
 | done, [] => if done then [] else [c]
 | done, x :: l => (if 0 < H8 x.1 c.1 ∧ done = false then [c] else []) ++ (if H8 x.1 c.1 ≠ 0 then [x] else [if J7 x ≤ J7 c then x else c]) ++ a0Y c (done || decide (0 ≤ H8 x.1 c.1)) l
def b5F (l : List Chg) (c : Chg) : List Chg := if F4 c = 0 then a0Y c false l else l
def a1a (a b : List Chg) : List Chg := (a ++ b).foldl b5F []
theorem b2k (c : Chg) : ∀ {l : List Chg}, (∀ x ∈ l, 0 < H8 x.1 c.1) → a0Y c true l = l
 | [], _ => rfl
 | x :: l, h => by
   have h1 := h x (by simp); have h2 : H8 x.1 c.1 ≠ 0 := (by omega); simp [a0Y, h2, b2k c (l := l) (fun y hy => h y (by simp [hy]))]
theorem b4w (c : Chg) : ∀ {l : List Chg}, (l.Pairwise fun a b => H8 a.1 b.1 < 0) →
   (a0Y c false l).Pairwise (fun a b => H8 a.1 b.1 < 0) ∧ (∀ x ∈ a0Y c false l, x ∈ l ∨ x.1 = c.1) ∧
   ∀ r, r ∈ a0Y c false l ↔ (r ∈ l ∧ (r.1 = c.1 → J7 r ≤ J7 c)) ∨ (r = c ∧ ∀ x ∈ l, x.1 = c.1 → ¬ J7 x ≤ J7 c)
 | [], _ => by simp [a0Y]
 | x :: l, h => by
   obtain ⟨h1, h2⟩ := pairwise_cons.1 h; obtain ⟨i1, i2, i3⟩ := b4w c h2; have hgt : ∀ y ∈ l, 0 ≤ H8 x.1 c.1 → 0 < H8 y.1 c.1 := fun y hy hx => by
     have a := h1 y hy; have b := W3 y.1 c.1; have b2 := W3 x.1 c.1; by_cases e : H8 x.1 c.1 = 0
     · rw [T5] at e; rw [e] at a; omega
     · have := a2O (show H8 c.1 x.1 < 0 by omega) a; omega
   by_cases hlt : H8 x.1 c.1 < 0
   · have hne : H8 x.1 c.1 ≠ 0 := (by omega); have e : a0Y c false (x :: l) = x :: a0Y c false l := by
       have c1 : ¬ (0 < H8 x.1 c.1) := (by omega); have c2 : ¬ (0 ≤ H8 x.1 c.1) := (by omega); simp [a0Y, c1, c2, hne]
     have hxc : ¬ x.1 = c.1 := fun e => hne (T5.2 e)
     rw [e]; refine ⟨pairwise_cons.2 ⟨fun y hy => ?_, i1⟩, fun y hy => ?_, fun r => ?_⟩
     · rcases i2 y hy with hy | hy
       · exact h1 y hy
       · rw [hy]; exact hlt
     · rcases mem_cons.1 hy with rfl | hy
       · exact .inl (by simp)
       · rcases i2 y hy with hy | hy
         · exact .inl (by simp [hy])
         · exact .inr hy
     · rw [mem_cons, i3, mem_cons]; constructor
       · rintro (rfl | ⟨a, b⟩ | ⟨a, b⟩)
         · exact .inl ⟨.inl rfl, fun e => absurd e hxc⟩
         · exact .inl ⟨.inr a, b⟩
         · exact .inr ⟨a, fun y hy => by
             rcases mem_cons.1 hy with rfl | hy
             · exact fun e => absurd e hxc
             · exact b y hy⟩
       · rintro (⟨rfl | a, b⟩ | ⟨a, b⟩)
         · exact .inl rfl
         · exact .inr (.inl ⟨a, b⟩)
         · exact .inr (.inr ⟨a, fun y hy => b y (by simp [hy])⟩)
   · have hge : 0 ≤ H8 x.1 c.1 := (by omega); have hdone := b2k c (l := l) (fun y hy => hgt y hy hge); by_cases h0 : H8 x.1 c.1 = 0
     · have hxc : x.1 = c.1 := T5.1 h0; have e : a0Y c false (x :: l) = (if J7 x ≤ J7 c then x else c) :: l := by
         simp [a0Y, h0, hdone]
       have hlc : ∀ y ∈ l, ¬ y.1 = c.1 := fun y hy e => by
         have := hgt y hy hge; rw [e, T6] at this; omega
       rw [e]; have hf1 : (if J7 x ≤ J7 c then x else c).1 = c.1 := by split <;> simp [hxc]
       refine ⟨pairwise_cons.2 ⟨fun y hy => ?_, h2⟩, fun y hy => ?_, fun r => ?_⟩
       · rw [hf1, ← hxc]; exact h1 y hy
       · rcases mem_cons.1 hy with rfl | hy
         · exact .inr hf1
         · exact .inl (by simp [hy])
       · rw [mem_cons, mem_cons]; by_cases hle : J7 x ≤ J7 c
         · rw [if_pos hle]; constructor
           · rintro (rfl | a)
             · exact .inl ⟨.inl rfl, fun _ => hle⟩
             · exact .inl ⟨.inr a, fun e => absurd e (hlc r a)⟩
           · rintro (⟨rfl | a, b⟩ | ⟨a, b⟩)
             · exact .inl rfl
             · exact .inr a
             · exact absurd hle (b x (by simp) hxc)
         · rw [if_neg hle]; constructor
           · rintro (rfl | a)
             · exact .inr ⟨rfl, fun y hy => by
                 rcases mem_cons.1 hy with rfl | hy
                 · exact fun _ => hle
                 · exact fun e => absurd e (hlc y hy)⟩
             · exact .inl ⟨.inr a, fun e => absurd e (hlc r a)⟩
           · rintro (⟨rfl | a, b⟩ | ⟨a, b⟩)
             · exact absurd (b hxc) hle
             · exact .inr a
             · exact .inl a
     · have hpos : 0 < H8 x.1 c.1 := (by omega); have hxc : ¬ x.1 = c.1 := fun e => h0 (T5.2 e)
       have e : a0Y c false (x :: l) = c :: x :: l := by
         simp [a0Y, h0, hpos, hge, hdone]
       have hlc : ∀ y ∈ l, ¬ y.1 = c.1 := fun y hy e => by
         have := hgt y hy hge; rw [e, T6] at this; omega
       rw [e]; refine ⟨pairwise_cons.2 ⟨fun y hy => ?_, h⟩, fun y hy => ?_, fun r => ?_⟩
       · have a := W3 y.1 c.1; rcases mem_cons.1 hy with rfl | hy
         · omega
         · have := hgt y hy hge; omega
       · rcases mem_cons.1 hy with rfl | hy
         · exact .inr rfl
         · exact .inl hy
       · constructor
         · intro hr; rcases mem_cons.1 hr with rfl | hr
           · exact .inr ⟨rfl, fun y hy => by
               rcases mem_cons.1 hy with rfl | hy
               · exact fun e => absurd e hxc
               · exact fun e => absurd e (hlc y hy)⟩
           · exact .inl ⟨hr, fun e' => by
               rcases mem_cons.1 hr with rfl | hr
               · exact absurd e' hxc
               · exact absurd e' (hlc r hr)⟩
         · rintro (⟨a, b⟩ | ⟨a, b⟩)
           · exact mem_cons.2 (.inr a)
           · exact mem_cons.2 (.inl a)
theorem a0h.add {S R : List Chg} (h : a0h S R) (c : Chg) : a0h (S ++ [c]) (b5F R c) := by
 unfold b5F; by_cases hc : F4 c = 0
 · rw [if_pos hc]; obtain ⟨a1, a2, a3⟩ := b4w c h.asc; refine ⟨a1, fun r => ?_⟩; rw [a3]; simp only [mem_append, mem_singleton]; constructor
   · rintro (⟨b1, b2⟩ | ⟨rfl, b2⟩)
     · obtain ⟨d1, d2, d3⟩ := (h.mem r).1 b1; refine ⟨.inl d1, d2, fun r' hr' hc' he => ?_⟩; rcases hr' with hr' | rfl
       · exact d3 r' hr' hc' he
       · exact b2 he.symm
     · refine ⟨.inr rfl, hc, fun r' hr' hc' he => ?_⟩; rcases hr' with hr' | rfl
       · obtain ⟨x, x1, x2, x3⟩ := h.has hr' hc'; have := b2 x x1 (by rw [x2, he]); rcases List.le_total (J7 x) (J7 r) with hle | hle
         · exact absurd hle this
         · exact List.le_trans hle x3
       · exact List.le_refl _
   · rintro ⟨b1, b2, b3⟩; by_cases hrR : r ∈ R
     · exact .inl ⟨hrR, fun e => b3 c (.inr rfl) hc e.symm⟩
     · rcases b1 with b1 | rfl
       · exact absurd ((h.mem r).2 ⟨b1, b2, fun r' hr' => b3 r' (.inl hr')⟩) hrR
       · refine .inr ⟨rfl, fun x hx e hle => ?_⟩; have hxm := (h.mem x).1 hx; have h1 := b3 x (.inl hxm.1) hxm.2.1 e; have heq : J7 x = J7 r := List.le_antisymm hle h1; exact hrR (a5x hxm.2.1 b2 heq ▸ hx)
 · rw [if_neg hc]; refine ⟨h.asc, fun r => ?_⟩; rw [h.mem]; simp only [mem_append, mem_singleton]; constructor
   · rintro ⟨b1, b2, b3⟩; refine ⟨.inl b1, b2, fun r' hr' hc' => ?_⟩; rcases hr' with hr' | rfl
     · exact b3 r' hr' hc'
     · exact absurd hc' hc
   · rintro ⟨b1, b2, b3⟩; rcases b1 with b1 | rfl
     · exact ⟨b1, b2, fun r' hr' => b3 r' (.inl hr')⟩
     · exact absurd b2 hc
theorem a9X : ∀ (l S R : List Chg), a0h S R → a0h (S ++ l) (l.foldl b5F R)
 | [], S, R, h => by simpa using h
 | c :: l, S, R, h => by
   have := a9X l (S ++ [c]) (b5F R c) (h.add c); rw [foldl_cons]; simpa using this
theorem b8r : a0h [] [] := ⟨Pairwise.nil, by simp⟩
theorem a3J (a b : List Chg) : a0h (a ++ b) (a1a a b) := by
 have := a9X (a ++ b) [] [] b8r; simpa [a1a] using this
theorem c4T (a b : UInt8) : ((a.toNat : Int) = (b.toNat : Int)) ↔ a = b := by
 constructor
 · intro h; have : a.toNat = b.toNat := (by omega); exact UInt8.toNat_inj.1 this
 · rintro rfl; rfl
theorem c3o (c : UInt8) : X1 c = (decide ((c.toNat : Int) = 44) || decide ((c.toNat : Int) = 61) || decide ((c.toNat : Int) = 43) || decide ((c.toNat : Int) = 92)) := by
 have h := fun k (hk : k < 256) => Z3 c k hk
 have h1 := h 44 (by omega); have h2 := h 61 (by omega); have h3 := h 43 (by omega); have h4 := h 92 (by omega); simp only [X1]; congr 1
 · congr 1
   · congr 1
     · exact decide_eq_decide.2 h1.symm
     · exact decide_eq_decide.2 h2.symm
   · exact decide_eq_decide.2 h3.symm
 · exact decide_eq_decide.2 h4.symm
theorem a0p (c : UInt8) : Ctr prog 170 [.d (u8 c)] (.d (.bool (X1 c))) := by
 refine fv (fun _ => false) func170 (by kernel_rfl) rfl rfl rfl rfl rfl ?_; rw [c3o]; by_cases h1 : (c.toNat : Int) = 44 <;> by_cases h2 : (c.toNat : Int) = 61 <;> by_cases h3 : (c.toNat : Int) = 43 <;> simp -implicitDefEqProofs [u8, h1, h2, h3]
theorem a6V {c : UInt8} {s : Str} {k : Nat} (h : k < s.length) : G2 c (s.drop k) = if s[k] = c then 0 else if s[k] = 92 then (if k + 1 < s.length then 2 + G2 c (s.drop (k + 2)) else 1) else 1 + G2 c (s.drop (k + 1)) := by
 rw [a2C h]; by_cases h2 : k + 1 < s.length
 · rw [a2C h2, G2]; simp only [if_pos h2]
 · have e : s.drop (k + 1) = [] := drop_eq_nil_of_le (by omega); rw [e, G2]; simp only [if_neg h2, G2]; by_cases h3 : s[k] = 92 <;> simp [h3]
def a1F (c : UInt8) (s : Str) : Int := if G2 c s < s.length then (G2 c s : Int) else -1
def NxI (c : UInt8) (s : Str) (k : Nat) : Prop := (k ≤ s.length → G2 c s = k + G2 c (s.drop k)) ∧ (s.length < k → G2 c s = s.length)
theorem NxI.zero (c : UInt8) (s : Str) : NxI c s 0 := ⟨fun _ => by simp, fun h => by omega⟩
theorem NxI.hit {c : UInt8} {s : Str} {k : Nat} (h : NxI c s k) (hk : k < s.length) (e : s[k] = c) : G2 c s = k := by
 rw [h.1 (by omega), a6V hk, if_pos e]; rfl
theorem NxI.one {c : UInt8} {s : Str} {k : Nat} (h : NxI c s k) (hk : k < s.length) (e : s[k] ≠ c) (e2 : s[k] ≠ 92) : NxI c s (k + 1) := by
 refine ⟨fun _ => ?_, fun h => by omega⟩; rw [h.1 (by omega), a6V hk, if_neg e, if_neg e2]; omega
theorem NxI.two {c : UInt8} {s : Str} {k : Nat} (h : NxI c s k) (hk : k < s.length) (e : s[k] ≠ c) (e2 : s[k] = 92) : NxI c s (k + 2) := by
 have h1 := h.1 (by omega); rw [a6V hk, if_neg e, if_pos e2] at h1; refine ⟨fun h2 => ?_, fun h2 => ?_⟩
 · rw [h1, if_pos (by omega)]; omega
 · rw [h1, if_neg (by omega)]; omega
theorem NxI.over {c : UInt8} {s : Str} {k : Nat} (h : NxI c s k) (hk : ¬ k < s.length) : G2 c s = s.length := by
 by_cases e : k = s.length
 · rw [h.1 (by omega), e]; simp [G2]
 · exact h.2 (by omega)
theorem b4l (s : Str) (c : UInt8) (hs : length s < 1000000) : Ctr prog 211 [.d (.str s), .d (u8 c)] (.d (.int .i64 (a1F c s))) := by
 refine fv (fun _ => false) func211 (by kernel_rfl) rfl rfl rfl rfl rfl ?_; simp -implicitDefEqProofs [u8]; refine G7 (length s + 1) (fun k τ => τ 0 = .d (.str s) ∧ τ 1 = .d (.int .u8 c.toNat) ∧ τ 5 = .d (.int .i64 k) ∧ NxI c s k) ⟨by simp, by simp, by simp, .zero c s⟩ ?_; rintro k τ hk ⟨h0, h1, h5, hI⟩; by_cases hlt : k < length s
 · by_cases h2 : s[k] = c
   · have h2' : (s[k].toNat : Int) = c.toNat := (c4T _ _).2 h2; have hn := hI.hit hlt h2; simp -implicitDefEqProofs [h0, h1, h5, hlt, h2']; rw [a1F, hn, if_pos hlt]
   · have h2' : ¬ (s[k].toNat : Int) = c.toNat := fun e => h2 ((c4T _ _).1 e)
     by_cases h3 : s[k] = 92
     · have h3' : (s[k].toNat : Int) = 92 := (Z3 s[k] 92 (by omega)).2 h3; have h9 : ¬ (92 : Int) = c.toNat := by rw [← h3']; exact h2'
       simp -implicitDefEqProofs [h0, h1, h5, hlt, h2', h3', h9]; (repeat refine ai (by omega) ?_); exact c0h (k' := k + 2) (by omega) (by omega) ⟨by simp [h0], by simp [h1], by simp; omega, hI.two hlt h2 h3⟩
     · have h3' : ¬ (s[k].toNat : Int) = 92 := fun e => h3 ((Z3 s[k] 92 (by omega)).1 e)
       simp -implicitDefEqProofs [h0, h1, h5, hlt, h2', h3']; (repeat refine ai (by omega) ?_); exact D5 (by omega) ⟨by simp [h0], by simp [h1], by simp, hI.one hlt h2 h3⟩
 · have hn := hI.over hlt; have hlt' : ¬ (k : Int) < (length s : Int) := (by omega); simp -implicitDefEqProofs [h0, h1, h5, hlt']; rw [a1F, hn, if_neg (by omega)]
def PcI (s : Str) (m : Nat) (τ : St) : Prop := ∃ (rest : Str) (out : List Str), m = length rest ∧ τ 0 = .d (.str rest) ∧ τ 3 = .own true 9 (out.map .str) ∧ length rest ≤ length s ∧ out.length + length rest ≤ length s ∧ Q2 s = out ++ Q2 rest
theorem b8U (s : Str) (hs : length s < 1000000) : Ctr prog 183 [.d (.str s)] (.own true 9 ((Q2 s).map .str)) := by
 refine fv (fun i => decide (i < 1000000)) func183 (by kernel_rfl) rfl rfl rfl rfl rfl ?_; simp -implicitDefEqProofs; refine b1K (PcI s) (length s) ⟨s, [], rfl, by simp, by simp, by omega, by simp, by simp⟩ ?_; rintro m τ ⟨rest, out, rfl, h0, h3, hr, ho, hp⟩; simp -implicitDefEqProofs [h0, h3]; refine A3 (b4l rest 44 (by omega)) ?_; by_cases hlt : G2 44 rest < rest.length
 · have hx : a1F 44 rest = (G2 44 rest : Int) := by rw [a1F, if_pos hlt]
   have hp2 := a6Z hlt; generalize hj : G2 44 rest = j at *; have i0 : ¬ (j : Int) < 0 := (by omega); have i1 : (0 : Int) ≤ (j : Int) + 1 := (by omega); have j1 : ((j : Int) + 1).toNat = j + 1 := (by omega); simp -implicitDefEqProofs [h0, h3, hx, i0, i1, j1]; (repeat refine ai (by omega) ?_); refine ⟨length (rest.drop (j + 1)), by simp; omega, rest.drop (j + 1), out ++ [rest.take j], rfl, ?_, by simp, by simp; omega, by simp; omega, by rw [hp, hp2]; simp⟩; simp; exact ttl (by simp)
 · have hx : a1F 44 rest = -1 := by rw [a1F, if_neg hlt]
   simp -implicitDefEqProofs [h0, h3, hx]; (repeat refine ai (by omega) ?_); rw [hp, a3K hlt]; simp
theorem a2v (s : Str) : (J1 s).length ≤ s.length := by
 have h1 : (Y5 32 (S8 32 s)).length ≤ (S8 32 s).length := (dropWhile_sublist _).length_le; have h2 : (S8 32 s).length ≤ s.length := by
   rw [S8, length_reverse]; have := (dropWhile_sublist (l := s.reverse) fun x => decide (x = 32)).length_le; simpa using this
 rw [J1]; omega
theorem b7m (s : Str) : (Y5 32 s).head? ≠ some 32 := by
 induction s with
 | nil => simp [Y5]
 | cons x s ih =>
   rw [Y5, dropWhile_cons]; by_cases hx : x = 32
   · rw [if_pos (by simp [hx])]; exact ih
   · rw [if_neg (by simp [hx])]; simpa using hx
theorem c5C (c : UInt8) : a1I c = 32 ↔ c = 32 := by
 constructor
 · intro h; by_cases h1 : 65 ≤ (c.toNat : Int) ∧ (c.toNat : Int) ≤ 90
   · have := a4p c h1.1 h1.2; rw [h] at this; have h3 : ((32 : UInt8).toNat : Int) = 32 := rfl; omega
   · rw [a1I, if_neg h1] at h; exact h
 · rintro rfl; decide
theorem c4I {s : Str} (h : (D9 (J1 s)).head? = some 32) : False := by
 have := b7m (S8 32 s); rw [← J1] at this; cases hq : J1 s with
 | nil => rw [hq] at h; simp [D9] at h
 | cons x t =>
   rw [hq] at h this; simp only [D9, map_cons, head?_cons, Option.some.injEq] at h; exact this (by simp [(c5C x).1 h])
theorem b0d : ∀ (a : Str) (p x : UInt8), sqz p (a ++ [x]) = sqz p a ++ (if x = 32 ∧ a.getLast?.getD p = 32 then [] else [x])
 | [], p, x => by by_cases h : x = 32 ∧ p = 32 <;> simp [sqz, h]
 | y :: a, p, x => by
   have ih1 := b0d a y x; have ih2 := b0d a p x; have hl : (y :: a).getLast?.getD p = a.getLast?.getD y := by rw [getLast?_cons]; rfl
   rw [hl]; simp only [cons_append, sqz]; by_cases h : y = 32 ∧ p = 32
   · obtain ⟨rfl, rfl⟩ := h; simp only [and_self, if_true]; exact ih1
   · rw [if_neg h, if_neg h, ih1]; rfl
theorem a9q : ∀ (a : Str) (p : UInt8), (sqz p a).length ≤ a.length
 | [], _ => by simp [sqz]
 | y :: a, p => by
   have h1 := a9q a p; have h2 := a9q a y; simp only [sqz]; split <;> simp <;> omega
theorem b3X (s : Str) : (Y0 s).length ≤ s.length := by
 have h1 := a9q (D9 (J1 s)) 0; rw [T4] at h1; have := a2v s; rw [Y0]; omega
theorem b5u {t : Str} {k : Nat} (h : k ≤ t.length) (h0 : 0 < k) (p : UInt8) : (t.take k).getLast?.getD p = t[k - 1]'(by omega) := by
 rw [getLast?_eq_getElem?, length_take, Nat.min_eq_left h, getElem?_take, if_pos (by omega), getElem?_eq_getElem (by omega)]; rfl
theorem b0M {t : Str} {k : Nat} (h : k < t.length) (hh : t.head? ≠ some 32) : sqz 0 (t.take (k + 1)) = sqz 0 (t.take k) ++ (if t[k] = 32 ∧ (∀ (h0 : 0 < k), t[k - 1] = 32) then [] else [t[k]]) := by
 rw [F6 h, b0d]; congr 1
 by_cases h0 : 0 < k
 · rw [b5u (by omega) h0]; by_cases h1 : t[k] = 32 ∧ t[k - 1] = 32
   · rw [if_pos h1, if_pos ⟨h1.1, fun _ => h1.2⟩]
   · rw [if_neg h1, if_neg fun e => h1 ⟨e.1, e.2 h0⟩]
 · obtain rfl : k = 0 := by omega
   have h2 : t[0] ≠ 32 := by
     intro e; apply hh
     cases t with
     | nil => simp at h
     | cons x t => simpa using e
   rw [if_neg (fun e => h2 e.1), if_neg (fun e => h2 e.1)]
theorem c1h {t : Str} {k : Nat} (h : k < t.length) (hh : t.head? ≠ some 32) (e : t[k] ≠ 32) : sqz 0 (t.take (k + 1)) = sqz 0 (t.take k) ++ [t[k]] := by
 rw [b0M h hh, if_neg fun q => e q.1]
theorem c1x {t : Str} {k : Nat} (h : k < t.length) (hh : t.head? ≠ some 32) (h0 : 0 < k) (e : t[k - 1] ≠ 32) : sqz 0 (t.take (k + 1)) = sqz 0 (t.take k) ++ [t[k]] := by
 rw [b0M h hh, if_neg fun q => e (q.2 h0)]
theorem c2w {t : Str} {k : Nat} (h : k < t.length) (hh : t.head? ≠ some 32) (e : t[k] = 32) (h0 : 0 < k) (e2 : t[k - 1] = 32) : sqz 0 (t.take (k + 1)) = sqz 0 (t.take k) := by
 rw [b0M h hh, if_pos ⟨e, fun _ => e2⟩, append_nil]
theorem c3W (s : Str) (hs : length s < 1000000) : Ctr prog 169 [.d (.str s)] (.d (.str (Y0 s))) := by
 refine fv (fun _ => false) func169 (by kernel_rfl) rfl rfl rfl rfl rfl ?_; have ht := a2v s; have hl : length (D9 (J1 s)) < 1000000 := by rw [T4]; omega
 have hh : (D9 (J1 s)).head? ≠ some 32 := fun h => c4I h
 have hf : Y0 s = sqz 0 (D9 (J1 s)) := rfl; have c2 := a2z (J1 s) (by omega); simp -implicitDefEqProofs; refine A3 (a9r s hs) ?_; simp -implicitDefEqProofs; refine A3 c2 ?_; clear c2; rw [hf]; generalize D9 (J1 s) = t at *; simp -implicitDefEqProofs; refine G7 t.length (fun k τ => τ 3 = .d (.str t) ∧ τ 10 = .d (.int .i64 t.length) ∧ τ 11 = .d (.int .i64 k) ∧ τ 4 = .own false 5 (D7 (sqz 0 (t.take k)))) ⟨by simp, by simp, by simp, by simp [sqz, D7]⟩ ?_; rintro k τ hk ⟨h3, h10, h11, h4⟩; by_cases hlt : k < length t
 · have hq := a9q (t.take k) 0; rw [length_take] at hq; by_cases e1 : t[k] = 32
   · have e1' : (t[k].toNat : Int) = 32 := (Z3 _ 32 (by omega)).2 e1; have h0 : 0 < k := by
       rcases Nat.eq_zero_or_pos k with rfl | h
       · exfalso
         apply hh
         cases t with
         | nil => simp at hlt
         | cons x t => simpa using e1
       · exact h
     have i1 : (0 : Int) ≤ (k : Int) - 1 := (by omega); have j1 : ((k : Int) - 1).toNat = k - 1 := (by omega); have l1 : k - 1 < length t := (by omega); by_cases e2 : t[k - 1] = 32
     · have e2' : (t[k - 1].toNat : Int) = 32 := (Z3 _ 32 (by omega)).2 e2; have hs3 := c2w hlt hh e1 h0 e2; simp -implicitDefEqProofs [h3, h10, h11, h4, hlt, e1', e2', i1, j1, l1]; (repeat refine ai (by omega) ?_); refine D5 hlt ⟨by simp [h3], by simp [h10], by simp, by simp [hs3, h4]⟩
     · have e2' : ¬ (t[k - 1].toNat : Int) = 32 := fun e => e2 ((Z3 _ 32 (by omega)).1 e)
       have hs3 := c1x hlt hh h0 e2; simp -implicitDefEqProofs [h3, h10, h11, h4, hlt, e1', e2', i1, j1, l1]; (repeat refine And.intro (by first | omega | (simp [D7]; omega)) ?_); refine D5 hlt ⟨by simp [h3], by simp [h10], by simp, by simp [hs3, D7, e1']⟩
   · have e1' : ¬ (t[k].toNat : Int) = 32 := fun e => e1 ((Z3 _ 32 (by omega)).1 e)
     have hs3 := c1h hlt hh e1; simp -implicitDefEqProofs [h3, h10, h11, h4, hlt, e1']; (repeat refine And.intro (by first | omega | (simp [D7]; omega)) ?_); refine D5 hlt ⟨by simp [h3], by simp [h10], by simp, by simp [hs3, D7]⟩
 · rw [ttl (by omega)] at h4; simp -implicitDefEqProofs [h3, h10, h11, h4, hlt]
theorem b8t {s : Str} {k : Nat} (h : k + 1 < s.length) (e : s[k] = 92) : P7 (s.drop k) = if X1 s[k + 1] = true then (P7 (s.drop (k + 2))).map (s[k + 1] :: ·) else none := by
 rw [a2C (show k < s.length by omega), a2C h, P7, if_pos e]
theorem b8P {s : Str} {k : Nat} (h : k < s.length) (h2 : ¬ k + 1 < s.length) (e : s[k] = 92) : P7 (s.drop k) = none := by
 rw [a2C h, drop_eq_nil_of_le (by omega), P7, if_pos e]
theorem b9Q {s : Str} {k : Nat} (h : k < s.length) (e : s[k] ≠ 92) : P7 (s.drop k) = if X1 s[k] = true then none else (P7 (s.drop (k + 1))).map (s[k] :: ·) := by
 rw [a2C h]; by_cases h2 : k + 1 < s.length
 · rw [a2C h2, P7, if_neg e]
 · rw [drop_eq_nil_of_le (by omega)]; simp only [P7, if_neg e]; rfl
theorem a6s : ∀ (n : Nat) (s : Str), s.length ≤ n → ∀ v, P7 s = some v → v.length ≤ s.length
 | _, [], _, v, h => by simp only [P7, Option.some.injEq] at h; subst h; simp
 | 0, x :: s, hn, _, _ => by simp at hn
 | n + 1, [x], _, v, h => by
   simp only [P7] at h; split at h
   · cases h
   · split at h
     · cases h
     · simp only [Option.some.injEq] at h; subst h; simp
 | n + 1, x :: y :: r, hn, v, h => by
   simp only [length_cons] at hn; simp only [P7] at h; split at h
   · split at h
     · obtain ⟨w, hw, rfl⟩ := Option.map_eq_some_iff.1 h; have := a6s n r (by omega) w hw; simp only [length_cons]; omega
     · cases h
   · split at h
     · cases h
     · obtain ⟨w, hw, rfl⟩ := Option.map_eq_some_iff.1 h; have := a6s n (y :: r) (by simp only [length_cons]; omega) w hw; simp only [length_cons] at this ⊢; omega
def a5Q (o : Option Str) : Str × Bool := match o with
 | some v => (v, true)
 | none => ([], false)
def VaI (f : Str → Option Str) (s : Str) (k : Nat) (out : Str) : Prop := f s = (f (s.drop k)).map (out ++ ·) ∧ out.length ≤ k
theorem VaI.zero {f : Str → Option Str} (s : Str) : VaI f s 0 [] := ⟨by simp, by simp⟩
theorem VaI.one {f : Str → Option Str} {s : Str} {k j : Nat} {out : Str} {x : UInt8} (h : VaI f s k out) (hj : k < j) (e : f (s.drop k) = (f (s.drop j)).map (x :: ·)) : VaI f s j (out ++ [x]) := by
 refine ⟨?_, ?_⟩
 · rw [h.1, e]; cases f (s.drop j) <;> simp
 · have := h.2; simp; omega
theorem VaI.none {f : Str → Option Str} {s : Str} {k : Nat} {out : Str} (h : VaI f s k out) (e : f (s.drop k) = Option.none) : f s = Option.none := by rw [h.1, e]; rfl
theorem VaI.all {f : Str → Option Str} {s : Str} {k : Nat} {out : Str} (h : VaI f s k out) (hk : ¬ k < s.length) (e : f [] = some []) : f s = some out := by
 rw [h.1, drop_eq_nil_of_le (by omega), e]; simp
theorem c1F (s : Str) (hs : length s < 1000000) : Ctr prog 212 [.d (.str s)] (.tup [.d (.str (a5Q (P7 s)).1), .d (.bool (a5Q (P7 s)).2)]) := by
 refine O0 (rv := .tmp 2) (rs := [.tmp 3]) (r := .d (.str (a5Q (P7 s)).1)) (ys := [.d (.bool (a5Q (P7 s)).2)]) (fun i => i == 1000004 || i == 5000038 || i == 5000039) (by kernel_rfl) func212 (by kernel_rfl) rfl rfl (by simp) (nbl rfl) (by kernel_rfl) rfl rfl ?_; simp -implicitDefEqProofs; refine b4M 1000000 1000001 5 (by simp) (by kernel_rfl) (by simp) (by simp) (fun b => ?_); simp -implicitDefEqProofs; refine G7 (length s) (fun k τ => τ 0 = .d (.str s) ∧ τ 5 = .d (.int .i64 k) ∧ τ 4 = .d (.raw (va b)) ∧ ∃ out, VaI P7 s k out ∧ a9d τ b out) ?_ ?_
 · exact ⟨by simp, by simp, by simp, [], .zero s, .nilp, .slice none 0 0, .inl rfl, by simp [b4C], by simp [D7]⟩
 rintro k τ hk ⟨h0, h5, h4, out, hI, p, hd, hp, hb, hh⟩; have hol := hI.2; by_cases hlt : k < length s
 · by_cases h2 : s[k] = 92
   · have h2' : (s[k].toNat : Int) = 92 := (Z3 s[k] 92 (by omega)).2 h2; by_cases h3 : k + 1 < length s
     · have e := b8t h3 h2; have ne : ¬ (k : Int) + 1 = (length s : Int) := (by omega); have i1 : (0 : Int) ≤ (k : Int) + 1 := (by omega); have j1 : ((k : Int) + 1).toNat = k + 1 := (by omega); by_cases h6 : X1 s[k + 1] = true
       · rw [if_pos h6] at e; simp -implicitDefEqProofs [h0, h5, h4, hlt, h2', ne, h3, i1, j1]; (repeat refine ai (by omega) ?_); refine A3 (a0p s[k + 1]) ?_; simp -implicitDefEqProofs [h0, h5, h4, hlt, h2', ne, h3, i1, j1, h6]; refine M9 [1000000, 1000001] 1000000 (J8 (s := out) (hd := hd) hp s[k + 1] (by omega)) (by simp [hb, hh]) rfl (by simp) ?_; rintro r hs' ⟨hd1, rfl⟩; simp -implicitDefEqProofs [h0, h5, h4, hlt, C6, D2]; (repeat refine ai (by omega) ?_); exact c0h (k' := k + 2) (by omega) (by omega) ⟨by simp [h0], by simp; omega, by simp [h4], out ++ [s[k + 1]], hI.one (by omega) e, .raw (va b), hd1, .inr rfl, by simp, by simp⟩
       · rw [if_neg h6] at e; have hn := hI.none e; simp -implicitDefEqProofs [h0, h5, h4, hlt, h2', ne, h3, i1, j1]; (repeat refine ai (by omega) ?_); refine A3 (a0p s[k + 1]) ?_; simp -implicitDefEqProofs [h0, h5, h4, hlt, h2', ne, h3, i1, j1, h6, a5Q, hn]
     · have hn := hI.none (b8P hlt h3 h2); have ne : (k : Int) + 1 = (length s : Int) := (by omega); simp -implicitDefEqProofs [h0, h5, h4, hlt, h2', ne, a5Q, hn]; try omega
   · have h2' : ¬ (s[k].toNat : Int) = 92 := fun e => h2 ((Z3 s[k] 92 (by omega)).1 e)
     have e := b9Q hlt h2; simp -implicitDefEqProofs [h0, h5, h4, hlt, h2']; refine A3 (a0p s[k]) ?_; by_cases h6 : X1 s[k] = true
     · rw [if_pos h6] at e; have hn := hI.none e; simp -implicitDefEqProofs [h0, h5, h4, hlt, h2', h6, a5Q, hn]
     · rw [if_neg h6] at e; simp -implicitDefEqProofs [h0, h5, h4, hlt, h2', h6]; refine M9 [1000000, 1000001] 1000000 (J8 (s := out) (hd := hd) hp s[k] (by omega)) (by simp [hb, hh]) rfl (by simp) ?_; rintro r hs' ⟨hd1, rfl⟩; simp -implicitDefEqProofs [h0, h5, h4, hlt, C6, D2]; (repeat refine ai (by omega) ?_); exact D5 hlt ⟨by simp [h0], by simp, by simp [h4], out ++ [s[k]], hI.one (by omega) e, .raw (va b), hd1, .inr rfl, by simp, by simp⟩
 · have hv := hI.all hlt rfl; simp -implicitDefEqProofs [h0, h5, h4, hlt]; refine M9 [1000000, 1000001] 1000000 (a5q (s := out) (hd := hd) hp) (by simp [hb, hh]) rfl (by simp) ?_; rintro r hs' ⟨rfl, rfl⟩; simp -implicitDefEqProofs [h0, h5, h4, hlt, C6, D2, a5Q, hv]
theorem b6K (s : Str) (hs : length s < 1000000) : Ctr prog 213 [.d (.str s)] (.d (.str (J1 s))) := by
 refine fv (fun _ => false) func213 (by kernel_rfl) rfl rfl rfl rfl rfl ?_; simp -implicitDefEqProofs; refine A3 (a9r s hs) ?_; simp -implicitDefEqProofs
theorem c3K (s : Str) (hs : length s < 1000000) : Ctr prog 184 [.d (.str s)] (.tup [.d (P2 (W0 s).1), .d (.int .i64 (W0 s).2)]) := by
 refine O0 (rv := .cell 2 121) (rs := [.tmp 3]) (r := .d (P2 (W0 s).1)) (ys := [.d (.int .i64 (W0 s).2)]) (fun _ => false) (by kernel_rfl) func184 (by kernel_rfl) rfl rfl (by simp) (nbl rfl) (by kernel_rfl) rfl rfl ?_; simp -implicitDefEqProofs; refine A3 (b4l s 61 hs) ?_; by_cases hlt : G2 61 s < s.length
 case neg =>
   have hx : a1F 61 s = -1 := by rw [a1F, if_neg hlt]
   simp -implicitDefEqProofs [hx]; simp [W0, hlt, P2]
 have hx : a1F 61 s = (G2 61 s : Int) := by rw [a1F, if_pos hlt]
 unfold W0; rw [if_pos hlt]; have b1 : length (s.drop (G2 61 s + 1)) < 1000000 := by simp; omega
 have b2 : length (s.take (G2 61 s)) < 1000000 := by simp; omega
 generalize hj : G2 61 s = j at *; have htk : take (length s - (j + 1)) (drop (j + 1) s) = drop (j + 1) s := ttl (by simp); have i0 : ¬ (j : Int) < 0 := (by omega); have i1 : (0 : Int) ≤ (j : Int) + 1 := (by omega); have j1 : ((j : Int) + 1).toNat = j + 1 := (by omega); have c1 := b6K (s.drop (j + 1)) b1; have c2 := a9r (s.take j) b2; have t1 := a2v (s.drop (j + 1)); have t2 := a2v (s.take j); have c3 := c1F (J1 (s.drop (j + 1))) (by omega); have c4 := b0J (J1 (s.take j)) (by omega); have hvl := a6s _ (J1 (s.drop (j + 1))) (Nat.le_refl _); simp -implicitDefEqProofs [hx, i0, i1, j1, htk]; (repeat refine ai (by omega) ?_); refine A3 c1 ?_; simp -implicitDefEqProofs; refine A3 c3 ?_; generalize J1 (s.drop (j + 1)) = T at *; cases hv : P7 T with
 | none =>
   simp -implicitDefEqProofs [a5Q, hv]; (repeat refine ai (by omega) ?_); refine A3 c2 ?_; generalize J1 (s.take j) = K at *; simp -implicitDefEqProofs; simp [P2]
 | some v =>
   have hv2 := hvl v hv; have c5 := a8f v (by omega); rw [a7B] at c5; simp -implicitDefEqProofs [a5Q, hv]; (repeat refine ai (by omega) ?_); refine A3 c2 ?_; generalize J1 (s.take j) = K at *; simp -implicitDefEqProofs; refine A3 c4 ?_; by_cases hn : U1 K = true
   · simp -implicitDefEqProofs [hn]; refine A3 c5 ?_; by_cases hc : S3 v = true
     · simp -implicitDefEqProofs [hc]; simp [P2]
     · simp -implicitDefEqProofs [hc]; simp [P2]
   · simp -implicitDefEqProofs [hn]; simp [P2]
theorem b6v : ∀ (n : Nat) (s : Str), s.length ≤ n → (Q2 s).length ≤ s.length + 1 ∧ ∀ p ∈ Q2 s, p.length ≤ s.length := by
 intro n
 induction n with
 | zero =>
   intro s hn; have : s = [] := length_eq_zero_iff.1 (by omega); subst this; rw [a3K (by simp)]; simp
 | succ n ih =>
   intro s hn; by_cases h : G2 44 s < s.length
   · rw [a6Z h]; obtain ⟨h1, h2⟩ := ih (s.drop (G2 44 s + 1)) (by simp only [length_drop]; omega); simp only [length_drop] at h1 h2; refine ⟨by simp only [length_cons]; omega, fun p hp => ?_⟩; rcases mem_cons.1 hp with rfl | hp
     · simp only [length_take]; omega
     · have := h2 p hp; omega
   · rw [a3K h]; simp
theorem b7d {out : List G3} {ps : List Str} {k : Nat} (h : k < ps.length) : R0 out (ps.drop k) = if (W0 ps[k]).2 = 0 then R0 (out ++ [(W0 ps[k]).1]) (ps.drop (k + 1)) else ([], (W0 ps[k]).2) := by
 rw [a2C h]; rfl
theorem b3M (s : Str) (hs : length s < 900000) : Ctr prog 132 [.d (.str s)] (.tup [.d (K7 (E8 s).1), .d (.int .i64 (E8 s).2)]) := by
 refine O0 (rv := .tmp 2) (rs := [.tmp 3]) (r := .d (K7 (E8 s).1)) (ys := [.d (.int .i64 (E8 s).2)]) (fun _ => false) (by kernel_rfl) func132 (by kernel_rfl) rfl rfl (by simp) (nbl rfl) (by kernel_rfl) rfl rfl ?_; by_cases hnil : s = []
 · simp -implicitDefEqProofs [hnil, E8, K7]
 have hP : E8 s = R0 [] (Q2 s) := by rw [E8, if_neg hnil]
 have c1 := b8U s (by omega); obtain ⟨b1, b2⟩ := b6v _ s (Nat.le_refl _); rw [hP]; generalize Q2 s = ps at *; obtain ⟨R, hR⟩ : ∃ R, R0 [] ps = R := ⟨_, rfl⟩; rw [hR]; simp -implicitDefEqProofs [hnil]; refine A3 c1 ?_; simp -implicitDefEqProofs; refine G7 ps.length (fun k τ => τ 12 = .own false 9 (ps.map .str) ∧ τ 13 = .d (.int .i64 ps.length) ∧ τ 14 = .d (.int .i64 k) ∧ ∃ out : List G3, out.length = k ∧ τ 4 = .own false 121 (out.map P2) ∧ R0 out (ps.drop k) = R) ?_ ?_
 · exact ⟨by simp, by simp, by simp, [], rfl, by simp, by simpa using hR⟩
 rintro k τ hk ⟨h12, h13, h14, out, ho, h4, hI⟩; by_cases hlt : k < ps.length
 · have hlt' : (k : Int) < ps.length := (by omega); rw [b7d hlt] at hI; have hb := b2 _ (gmm hlt); have c2 := c3K ps[k] (by omega); simp -implicitDefEqProofs [h12, h13, h14, h4, hlt, hlt']; refine A3 c2 ?_; generalize W0 ps[k] = C at *; obtain ⟨⟨n, v⟩, e⟩ := C; by_cases he : e = 0
   · rw [if_pos he] at hI; simp -implicitDefEqProofs [h12, h13, h14, h4, hlt, hlt', he, P2]; (repeat refine ai (by omega) ?_); exact D5 hlt ⟨by simp [h12], by simp [h13], by simp, out ++ [(n, v)], by simp [ho], by simp [P2], hI⟩
   · rw [if_neg he] at hI; subst hI; simp -implicitDefEqProofs [h12, h13, h14, h4, hlt, hlt', he, P2]; simp [K7]
 · have hlt' : ¬ (k : Int) < ps.length := (by omega); rw [drop_eq_nil_of_le (by omega), R0] at hI; by_cases h8 : 8 < out.length
   · rw [if_pos h8] at hI; subst hI; have h8' : (8 : Int) < out.length := (by omega); simp -implicitDefEqProofs [h12, h13, h14, h4, hlt, hlt', h8', K7]; try omega
   · rw [if_neg h8] at hI; subst hI; have h8' : ¬ (8 : Int) < out.length := (by omega); simp -implicitDefEqProofs [h12, h13, h14, h4, hlt, hlt', h8', K7]; try omega
end Go.Proofs.Tz