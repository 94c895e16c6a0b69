/-
  What the functions that the statements about merged states reach compute, part 2 of 6, for data of bounded size (each theorem states its bound).
-/import Derived.Test.YtnknfnfinhagoaaGreatDoorTf
open Go.Proofs.Tryz
set_option linter.unusedSimpArgs false
set_option linter.unusedVariables false
set_option maxRecDepth 100000
set_option maxHeartbeats 4000000
namespace Go.Proofs.Tz
open Go.Vw Go.RowKit Go.Proofs
theorem a4H (c : Csn) : Ctr prog 36 [.d (B5 c)] (.d (.str (Q1 c))) := by
  refine fv (fun _ => false) func36 (by kernel_rfl) rfl rfl rfl rfl rfl ?_; have c0 := a7D c; obtain ⟨t, s, r⟩ := c; unfold Q1; by_cases hv : U2 (t, s, r) = true
  · have hv' := b7u.1 hv; simp only at hv'; rw [hv] at c0; rw [if_pos hv]; obtain ⟨t', rfl⟩ := Int.eq_ofNat_of_zero_le hv'.1; obtain ⟨s', rfl⟩ := Int.eq_ofNat_of_zero_le hv'.2.2.1; obtain ⟨r', rfl⟩ := Int.eq_ofNat_of_zero_le hv'.2.2.2.2.1; have c1 := b4q t' 11 (by omega) (by omega); have c2 := b4q s' 8 (by omega) (by omega); have c3 := b4q r' 1 (by omega) (by omega); have l1 := a4f 11 t'; have l2 := a4f 8 s'; have l3 := a4f 1 r'; simp only [Int.ofNat_eq_natCast, Int.toNat_natCast]; generalize a0f t' 11 = A at *; generalize a0f s' 8 = B at *; generalize a0f r' 1 = C at *; simp only [B5] at c0; simp -implicitDefEqProofs [B5]; refine A1 c0 ?_; simp -implicitDefEqProofs; refine D8 c1 ?_; simp -implicitDefEqProofs; (repeat refine ai (by omega) ?_); refine D8 c2 ?_; simp -implicitDefEqProofs; (repeat refine ai (by omega) ?_); refine D8 c3 ?_; simp -implicitDefEqProofs; repeat refine ai (by omega) ?_
    first | done | omega
  · have hv' : U2 (t, s, r) = false := (by simpa using hv); rw [hv'] at c0; rw [if_neg hv]; simp only [B5] at c0; simp -implicitDefEqProofs [B5]; refine A1 c0 ?_; simp -implicitDefEqProofs
theorem b5S (s : Str) (hs : List.length s < 1000000) : Ctr prog 53 [.d (.str s)] (.tup [.d (B5 (a0y s).1), .d (.int .i64 (a0y s).2)]) := by
  refine N1 (rv := .cell 2 32) (rs := [.tmp 3]) (r := .d (B5 (a0y s).1)) (ys := [.d (.int .i64 (a0y s).2)]) (fun i => i == 9000003) (by kernel_rfl) func53 (by kernel_rfl) rfl rfl (by simp) (nbl rfl) (by kernel_rfl) rfl rfl ?_; obtain ⟨R, hR⟩ : ∃ R, a0y s = R := ⟨_, rfl⟩; rw [hR]; unfold a0y at hR; by_cases hl : s.length = 22
  case neg =>
    have hl' : ¬ (s.length : Int) = 22 := (by omega); rw [if_pos (.inl hl)] at hR; subst hR; simp -implicitDefEqProofs [hl', B5]
  have g11 := List.getElem?_eq_getElem (show 11 < s.length by omega); have g20 := List.getElem?_eq_getElem (show 20 < s.length by omega); generalize hx11 : s[11]'(by omega) = x11 at *; generalize hx20 : s[20]'(by omega) = x20 at *; by_cases h1 : x11 = 45
  case neg =>
    have h1' : ¬ (x11.toNat : Int) = 45 := fun e => h1 (UInt8.toNat_inj.1 (show x11.toNat = (45 : UInt8).toNat by simp; omega))
    rw [if_pos (.inr (.inl (by rw [g11]; simpa using h1)))] at hR; subst hR; simp -implicitDefEqProofs [hl, hx11, h1', B5]
  by_cases h2 : x20 = 45
  case neg =>
    have h2' : ¬ (x20.toNat : Int) = 45 := fun e => h2 (UInt8.toNat_inj.1 (show x20.toNat = (45 : UInt8).toNat by simp; omega))
    rw [if_pos (.inr (.inr (by rw [g20]; simpa using h2)))] at hR; subst hR; simp -implicitDefEqProofs [hl, hx11, hx20, h1, h2', B5]
  subst h1 h2; rw [if_neg (by rw [g11, g20]; simp [hl])] at hR; have c1 := a6N (s.take 11) (by simp; omega); have c2 := a6N ((s.take 20).drop 12) (by simp; omega); have c3 := a6N (s.drop 21) (by simp; omega); have c4 := a7D (a4a s); obtain ⟨a, ha⟩ : ∃ a, a4a s = a := ⟨_, rfl⟩; have ha' := ha; unfold a4a at ha'; rw [ha] at hR c4; obtain ⟨p, q, r⟩ := a; simp only [Prod.mk.injEq] at ha'; obtain ⟨e1, e2, e3⟩ := ha'; rw [e1] at c1; rw [e2] at c2; rw [e3] at c3; rw [List.drop_take] at c2; rw [show s.drop 21 = (s.drop 21).take 1 from (ttl (by simp; omega)).symm] at c3; simp only at hR; simp only [B5] at c4; by_cases hp : p < 0
  · rw [if_pos (.inl hp)] at hR; subst hR; simp -implicitDefEqProofs [hl, hx11, hx20, B5]; refine D8 c1 ?_; simp -implicitDefEqProofs [hl]; refine D8 c2 ?_; simp -implicitDefEqProofs [hl]; refine D8 c3 ?_; simp -implicitDefEqProofs [hp]
  by_cases hq : q < 0
  · rw [if_pos (.inr (.inl hq))] at hR; subst hR; simp -implicitDefEqProofs [hl, hx11, hx20, B5]; refine D8 c1 ?_; simp -implicitDefEqProofs [hl]; refine D8 c2 ?_; simp -implicitDefEqProofs [hl]; refine D8 c3 ?_; simp -implicitDefEqProofs [hp, hq]
  by_cases hr : r < 0
  · rw [if_pos (.inr (.inr hr))] at hR; subst hR; simp -implicitDefEqProofs [hl, hx11, hx20, B5]; refine D8 c1 ?_; simp -implicitDefEqProofs [hl]; refine D8 c2 ?_; simp -implicitDefEqProofs [hl]; refine D8 c3 ?_; simp -implicitDefEqProofs [hp, hq, hr]
  rw [if_neg (by omega)] at hR; by_cases hv : U2 (p, q, r) = true
  · rw [if_neg (by rw [hv]; simp)] at hR; subst hR; rw [hv] at c4; simp -implicitDefEqProofs [hl, hx11, hx20, B5]; refine D8 c1 ?_; simp -implicitDefEqProofs [hl]; refine D8 c2 ?_; simp -implicitDefEqProofs [hl]; refine D8 c3 ?_; simp -implicitDefEqProofs [hp, hq, hr]; refine A1 c4 ?_; simp -implicitDefEqProofs
  · have hv' : U2 (p, q, r) = false := (by simpa using hv); rw [if_pos hv'] at hR; subst hR; rw [hv'] at c4; simp -implicitDefEqProofs [hl, hx11, hx20, B5]; refine D8 c1 ?_; simp -implicitDefEqProofs [hl]; refine D8 c2 ?_; simp -implicitDefEqProofs [hl]; refine D8 c3 ?_; simp -implicitDefEqProofs [hp, hq, hr]; refine A1 c4 ?_; simp -implicitDefEqProofs
end Go.Proofs.Tz
namespace Go.Proofs.Tz
open Go.Vw
theorem c3K (l m : List Str) (hl : l.length < 1000000) (hm : m.length < 1000000) : Ctr prog 111 [.d (B9 l), .d (B9 m)] (.d (.bool (decide (l = m)))) := by
  refine fv (fun _ => false) func111 (by kernel_rfl) rfl rfl rfl rfl rfl ?_; by_cases hlm : l.length = m.length
  · simp -implicitDefEqProofs [B9, hlm]; refine H3 m.length (fun k τ => τ 0 = .d (B9 l) ∧ τ 1 = .d (B9 m) ∧ τ 5 = .d (.int .i64 k) ∧ l.take k = m.take k) (by simp [B9]) ?_; rintro k τ hk ⟨h0, h1, h5, ht⟩; by_cases hlt : k < m.length
    · have hlt' : k < l.length := (by omega); by_cases he : l[k] = m[k]
      · simp -implicitDefEqProofs [h0, h1, h5, B9, hlm, hlt, hlt', he]; refine ⟨by omega, E5 hlt ⟨by simp [h0, B9], by simp [h1, B9], by simp, ?_⟩⟩; rw [G9 hlt, G9 hlt', ht, he]
      · simp -implicitDefEqProofs [h0, h1, h5, B9, hlm, hlt, hlt', he]; rintro rfl; exact he rfl
    · simp -implicitDefEqProofs [h0, h1, h5, B9, hlm, hlt]; rw [ttl (by omega), ttl (by omega)] at ht
      first | exact ⟨by omega, ht⟩ | exact ht
  · have hlm' : ¬ (l.length : Int) = m.length := (by omega); simp -implicitDefEqProofs [B9, hlm']; rintro rfl; exact hlm rfl
def N8 (s : Str) (r : Bool × List Str) (x : Str) : Bool × List Str :=
  (r.1 || !Op.bytesLess x s, r.2 ++ (if r.1 = false ∧ Op.bytesLess x s = false then [s] else []) ++ (if x = s then [] else [x]))
def a2a (s : Str) (l : List Str) : Bool × List Str := l.foldl (N8 s) (false, [])
def ins (l : List Str) (s : Str) : List Str := (a2a s l).2 ++ (if (a2a s l).1 then [] else [s])
theorem b9V {s : Str} {l : List Str} {k : Nat} (h : k < l.length) : a2a s (l.take (k + 1)) = N8 s (a2a s (l.take k)) l[k] := by
  rw [G9 h]; simp only [a2a, List.foldl_append, List.foldl_cons, List.foldl_nil]
theorem b4s (s : Str) : ∀ (l : List Str) (r : Bool × List Str), (l.foldl (N8 s) r).2.length ≤ r.2.length + 2 * l.length
  | [], r => by simp
  | x :: l, r => by
    have := b4s s l (N8 s r x); simp only [List.foldl_cons, List.length_cons]; have h2 : (N8 s r x).2.length ≤ r.2.length + 2 := by
      simp only [N8, List.length_append]; split <;> split <;> simp <;> omega
    all_goals omega
theorem b8O (s : Str) (l : List Str) : (a2a s l).2.length ≤ 2 * l.length := by simpa [a2a] using b4s s l (false, [])
theorem c0o (l : List Str) (s : Str) (hl : l.length < 1000000) : Ctr prog 112 [.d (B9 l), .d (.str s)] (.own true 9 ((ins l s).map .str)) := by
  refine fv (fun i => decide (i < 1000000)) func112 (by kernel_rfl) rfl rfl rfl rfl rfl ?_; simp -implicitDefEqProofs; refine H3 l.length (fun k τ => τ 0 = .d (B9 l) ∧ τ 1 = .d (.str s) ∧ τ 6 = .d (.bool (a2a s (l.take k)).1) ∧ τ 5 = .own true 9 ((a2a s (l.take k)).2.map .str) ∧ τ 7 = .d (.int .i64 k)) (by simp [a2a]) ?_; rintro k τ hk ⟨h0, h1, h6, h5, h7⟩; have hlen := b8O s (l.take k); rw [List.length_take, Nat.min_eq_left hk] at hlen; have ht := fun h => b9V (s := s) (l := l) (k := k) h
  generalize hr : a2a s (l.take k) = r at *; obtain ⟨d, out⟩ := r; simp only at hlen h6 h5; by_cases hlt : k < l.length
  · have ht := ht hlt; cases d with
    | true =>
      by_cases he : l[k] = s
      · simp -implicitDefEqProofs [h0, h1, h6, h5, h7, B9, hlt, he]; refine ⟨by omega, E5 hlt ⟨by simp [h0, B9], by simp [h1], ?_, ?_, by simp⟩⟩
        · rw [ht]; simp [h6, N8]
        · rw [ht]; simp [h5, N8, he]
      · simp -implicitDefEqProofs [h0, h1, h6, h5, h7, B9, hlt, he]; refine ⟨by omega, by omega, by omega, E5 hlt ⟨by simp [h0, B9], by simp [h1], ?_, ?_, by simp⟩⟩
        · rw [ht]; simp [h6, N8]
        · rw [ht]; simp [h5, N8, he]
    | false =>
      by_cases hb : Op.bytesLess l[k] s = true
      · by_cases he : l[k] = s
        · have hb' : Op.bytesLess s s = true := by rw [he] at hb; exact hb
          simp -implicitDefEqProofs [h0, h1, h6, h5, h7, B9, hlt, he, hb']; refine ⟨by omega, E5 hlt ⟨by simp [h0, B9], by simp [h1], ?_, ?_, by simp⟩⟩
          · rw [ht]; simp [h6, N8, he, hb']
          · rw [ht]; simp [h5, N8, he, hb']
        · simp -implicitDefEqProofs [h0, h1, h6, h5, h7, B9, hlt, he, hb]; refine ⟨by omega, by omega, by omega, E5 hlt ⟨by simp [h0, B9], by simp [h1], ?_, ?_, by simp⟩⟩
          · rw [ht]; simp [h6, N8, he, hb]
          · rw [ht]; simp [h5, N8, he, hb]
      · by_cases he : l[k] = s
        · have hb' : Op.bytesLess s s = false := by rw [he] at hb; simpa using hb
          simp -implicitDefEqProofs [h0, h1, h6, h5, h7, B9, hlt, he, hb']; refine ⟨by omega, by omega, by omega, E5 hlt ⟨by simp [h0, B9], by simp [h1], ?_, ?_, by simp⟩⟩
          · rw [ht]; simp [h6, N8, he, hb']
          · rw [ht]; simp [h5, N8, he, hb']
        · simp -implicitDefEqProofs [h0, h1, h6, h5, h7, B9, hlt, he, hb]; refine ⟨by omega, by omega, by omega, by omega, by omega, E5 hlt ⟨by simp [h0, B9], by simp [h1], ?_, ?_, by simp⟩⟩
          · rw [ht]; simp [h6, N8, he, hb]
          · rw [ht]; simp [h5, N8, he, hb]
  · rw [ttl (by omega)] at hr; cases d with
    | true =>
      simp -implicitDefEqProofs [h0, h1, h6, h5, h7, B9, hlt, ins, hr]
      all_goals omega
    | false =>
      simp -implicitDefEqProofs [h0, h1, h6, h5, h7, B9, hlt, ins, hr]
      all_goals omega
abbrev Att := Str × List Str
def att (a : Att) : D := .agg [.str a.1, B9 a.2]
def G6 (l : List Att) : D := .sl (l.map att)
def b4e (l : List Att) : Prop := l.length < 1000000 ∧ ∀ a ∈ l, List.length a.1 < 1000000 ∧ a.2.length < 1000000
theorem c1s (l m : List Att) (hl : b4e l) (hm : b4e m) : Ctr prog 60 [.d (G6 l), .d (G6 m)] (.d (.bool (decide (l = m)))) := by
  refine fv (fun _ => false) func60 (by kernel_rfl) rfl rfl rfl rfl rfl ?_; have hl1 := hl.1; have hm1 := hm.1; by_cases hlm : l.length = m.length
  · simp -implicitDefEqProofs [G6, hlm]; refine H3 m.length (fun k τ => τ 0 = .d (G6 l) ∧ τ 1 = .d (G6 m) ∧ τ 5 = .d (.int .i64 k) ∧ l.take k = m.take k) (by simp [G6]) ?_; rintro k τ hk ⟨h0, h1, h5, ht⟩; by_cases hlt : k < m.length
    · have hlt' : k < l.length := (by omega); by_cases he : l[k].1 = m[k].1
      · simp -implicitDefEqProofs [h0, h1, h5, G6, att, B9, hlm, hlt, hlt', he]; refine D8 (c3K _ _ (hl.2 _ (gmm hlt')).2 (hm.2 _ (gmm hlt)).2) ?_; by_cases he2 : l[k].2 = m[k].2
        · simp -implicitDefEqProofs [h0, h1, h5, G6, att, B9, hlm, hlt, hlt', he, he2]; refine ⟨by omega, E5 hlt ⟨by simp [h0, G6, att, B9], by simp [h1, G6, att, B9], by simp, ?_⟩⟩; rw [G9 hlt, G9 hlt', ht, Prod.ext he he2]
        · simp -implicitDefEqProofs [h0, h1, h5, G6, att, B9, hlm, hlt, hlt', he, he2]; rintro rfl; exact he2 rfl
      · simp -implicitDefEqProofs [h0, h1, h5, G6, att, B9, hlm, hlt, hlt', he]; rintro rfl; exact he rfl
    · simp -implicitDefEqProofs [h0, h1, h5, G6, hlm, hlt]; rw [ttl (by omega), ttl (by omega)] at ht
      first | exact ⟨by omega, ht⟩ | exact ht
  · have hlm' : ¬ (l.length : Int) = m.length := (by omega); simp -implicitDefEqProofs [G6, hlm']; rintro rfl; exact hlm rfl
theorem b2l (s : Str) : ∀ (l : List Str) (r : Bool × List Str) (c : Nat), r.2.length ≤ c + r.1.toNat → (l.foldl (N8 s) r).2.length ≤ c + l.length + (l.foldl (N8 s) r).1.toNat
  | [], _, _, h => h
  | x :: l, (d, out), c, h => by
    have h2 : (N8 s (d, out) x).2.length ≤ (c + 1) + (N8 s (d, out) x).1.toNat := by
      simp only at h; cases d <;> by_cases hb : Op.bytesLess x s = true <;> by_cases he : x = s <;> simp [N8, hb, he] at h ⊢ <;> first
        | omega
        | (split <;> simp <;> omega)
    have := b2l s l (N8 s (d, out) x) (c + 1) h2; simp only [List.foldl_cons, List.length_cons]; omega
theorem b6B (l : List Str) (s : Str) : (ins l s).length ≤ l.length + 1 := by
  have : (a2a s l).2.length ≤ 0 + l.length + (a2a s l).1.toNat := b2l s l (false, []) 0 (by simp); simp only [ins, List.length_append]; cases h : (a2a s l).1 <;> simp [h] at this ⊢ <;> omega
def X0 (ns : List Str) (a : Att) : List Str := if a.2 = [] then ns else ins ns (C8 a.1)
def V5 (l : List Att) : List Str := l.foldl X0 []
def a0w (n : Str) (vs : List Str) (a : Att) : List Str := if C8 a.1 = n then a.2.foldl ins vs else vs
def Z1 (l : List Att) (n : Str) : List Str := l.foldl (a0w n) []
def F5 (l : List Att) : List Att := (V5 l).map fun n => (n, Z1 l n)
theorem a8P {l : List Att} {k : Nat} (h : k < l.length) : V5 (l.take (k + 1)) = X0 (V5 (l.take k)) l[k] := by
  rw [G9 h]; simp only [V5, List.foldl_append, List.foldl_cons, List.foldl_nil]
theorem b7M {l : List Att} {n : Str} {k : Nat} (h : k < l.length) : Z1 (l.take (k + 1)) n = a0w n (Z1 (l.take k) n) l[k] := by
  rw [G9 h]; simp only [Z1, List.foldl_append, List.foldl_cons, List.foldl_nil]
theorem a4z : ∀ (l : List Att) (ns : List Str), (l.foldl X0 ns).length ≤ ns.length + l.length
  | [], ns => by simp
  | a :: l, ns => by
    have := a4z l (X0 ns a); have h2 : (X0 ns a).length ≤ ns.length + 1 := by
      unfold X0; split
      · omega
      · exact b6B _ _
    simp only [List.foldl_cons, List.length_cons]; omega
theorem a6o : ∀ (l ns : List Str), (l.foldl ins ns).length ≤ ns.length + l.length
  | [], ns => by simp
  | a :: l, ns => by
    have := a6o l (ins ns a); have := b6B ns a; simp only [List.foldl_cons, List.length_cons]; omega
def H1 (l : List Att) : Nat := (l.map (·.2.length)).sum
theorem a9f (n : Str) : ∀ (l : List Att) (vs : List Str), (l.foldl (a0w n) vs).length ≤ vs.length + H1 l
  | [], vs => by simp [H1]
  | a :: l, vs => by
    have := a9f n l (a0w n vs a); have h2 : (a0w n vs a).length ≤ vs.length + a.2.length := by
      unfold a0w; split
      · exact a6o _ _
      · omega
    simp only [List.foldl_cons, H1, List.map_cons, List.sum_cons] at this ⊢
    all_goals omega
def a4r (l : List Att) : Prop := b4e l ∧ H1 l < 500000
theorem b0V (l : List Att) (k : Nat) (h : k < l.length) : H1 (l.take k) + l[k].2.length ≤ H1 l := by
  have e : H1 l = H1 (l.take k) + (l[k].2.length + H1 (l.drop (k + 1))) := by
    conv => lhs; rw [← List.take_append_drop k l, List.drop_eq_getElem_cons h]
    simp only [H1, List.map_append, List.map_cons, List.sum_append, List.sum_cons]
  all_goals omega
def a2C (l : List Att) (ns : List Str) (i : Nat) : List D := ((ns.take i).map fun n => (n, Z1 l n)).map att
theorem b8M (l : List Att) (ns : List Str) : a2C l ns 0 = [] := rfl
theorem b9f (l : List Att) {ns : List Str} {i : Nat} (h : i < ns.length) : a2C l ns (i + 1) = a2C l ns i ++ [.agg [.str ns[i], B9 (Z1 l ns[i])]] := by
  rw [a2C, G9 h]; simp only [List.map_append, List.map_cons, List.map_nil]; rfl
theorem c2g (l : List Att) {ns : List Str} {i : Nat} (h : i ≤ ns.length) : (a2C l ns i).length = i := by simp [a2C, Nat.min_eq_left h]
theorem c0O (l : List Att) (i : Nat) (h : (V5 l).length ≤ i) : a2C l (V5 l) i = (F5 l).map att := by rw [a2C, ttl h]; rfl
theorem b7D (l : List Att) (ns : List Str) (i : Nat) : ∀ u ∈ a2C l ns i, B1 u = 2 := by
  intro u hu; simp only [a2C, List.map_map, List.mem_map] at hu; obtain ⟨n, _, rfl⟩ := hu; rfl
theorem a5v (l : List Att) (hl : a4r l) : Ctr prog 61 [.d (G6 l)] (.own true 72 ((F5 l).map att)) := by
  refine fv (fun i => i == 5) func61 (by kernel_rfl) rfl rfl rfl rfl rfl ?_; obtain ⟨⟨hl1, hl2⟩, hl3⟩ := hl; simp -implicitDefEqProofs; refine H3 l.length (fun k τ => τ 0 = .d (G6 l) ∧ τ 4 = .d (.int .i64 k) ∧ τ 3 = .own false 9 ((V5 (l.take k)).map .str)) (by simp [V5]) ?_; rintro k τ hk ⟨h0, h4, h3⟩; by_cases hlt : k < l.length
  · have hn := a4z (l.take k) []; rw [List.length_take] at hn; by_cases he : l[k].2 = []
    · simp -implicitDefEqProofs [h0, h4, h3, hlt, G6, att, B9, he]; refine ⟨by omega, E5 hlt ⟨by simp [h0, G6, att, B9], by simp, ?_⟩⟩; rw [a8P hlt]; simp [h3, X0, he]
    · have he' : 0 < l[k].2.length := List.length_pos_iff.2 he; simp -implicitDefEqProofs [h0, h4, h3, hlt, G6, att, B9, he']; refine A1 (a4s _ (hl2 _ (gmm hlt)).1) ?_; simp -implicitDefEqProofs [h0, h4, h3, hlt, G6, att, B9, he']; have hf := c0o (V5 (l.take k)) (C8 l[k].1) (by simp only [List.length_nil] at hn; unfold V5; omega); simp only [B9] at hf; refine A1 hf ?_; simp -implicitDefEqProofs [h0, h4, h3, hlt, G6, att, B9, he']; refine ⟨by omega, E5 hlt ⟨by simp [h0, G6, att, B9], by simp, ?_⟩⟩; rw [a8P hlt]; simp [X0, he]
  · simp -implicitDefEqProofs [h0, h4, h3, hlt, G6]; rw [ttl (by omega)] at h3; have hn := a4z l []; generalize hN : V5 l = ns at *; rw [show List.foldl X0 [] l = V5 l from rfl, hN] at hn; simp only [List.length_nil, Nat.zero_add] at hn; refine H3 ns.length (fun i τ => τ 0 = .d (G6 l) ∧ τ 3 = .own false 9 (ns.map .str) ∧ τ 6 = .d (.int .i64 i) ∧ τ 5 = .own true 72 (a2C l ns i)) (by simp [h0, h3, hN, G6, b8M]) ?_; clear h0 h3 h4 τ; rintro i τ hi ⟨h0, h3, h6, h5⟩; by_cases hlt2 : i < ns.length
    · simp -implicitDefEqProofs [h0, h3, h5, h6, hlt2, G6, att, B9]; refine H3 l.length (fun k τ => τ 0 = .d (G6 l) ∧ τ 3 = .own false 9 (ns.map .str) ∧ τ 6 = .d (.int .i64 i) ∧ τ 5 = .own true 72 (a2C l ns i) ∧ τ 8 = .d (.int .i64 k) ∧ τ 7 = .box (.agg [.str ns[i], B9 (Z1 (l.take k) ns[i])])) (by simp [h0, h3, h5, h6, hN, G6, att, B9, Z1]) ?_; clear h0 h3 h6 h5 τ hk hlt k; rintro k τ hk ⟨h0, h3, h6, h5, h8, h7⟩; by_cases hlt : k < l.length
      · have hv := a9f ns[i] (l.take k) []; have ht := b0V l k hlt; rw [show (l.take k).foldl (a0w ns[i]) [] = Z1 (l.take k) ns[i] from rfl] at hv; have hst := b7M (n := ns[i]) hlt; generalize Z1 (l.take k) ns[i] = vs at *; simp -implicitDefEqProofs [h0, h3, h5, h6, h7, h8, hlt, hlt2, G6, att, B9]; refine H3 l[k].2.length (fun j τ => τ 0 = .d (G6 l) ∧ τ 3 = .own false 9 (ns.map .str) ∧ τ 6 = .d (.int .i64 i) ∧ τ 5 = .own true 72 (a2C l ns i) ∧ τ 8 = .d (.int .i64 k) ∧ τ 9 = .d (.int .i64 j) ∧ τ 7 = .box (.agg [.str ns[i], B9 (if C8 l[k].1 = ns[i] then (l[k].2.take j).foldl ins vs else vs)])) (by simp [h0, h3, h5, h6, h7, h8, G6, att, B9]) ?_; clear h0 h3 h6 h5 h8 h7 τ; rintro j τ hj ⟨h0, h3, h6, h5, h8, h9, h7⟩; have hal := (hl2 _ (gmm hlt)); by_cases hn : C8 l[k].1 = ns[i]
        · rw [if_pos hn] at h7; by_cases hlt3 : j < l[k].2.length
          · simp -implicitDefEqProofs [h0, h3, h5, h6, h7, h8, h9, hlt, hlt2, hlt3, G6, att, B9]; refine D8 (a4s _ hal.1) ?_; simp -implicitDefEqProofs [h0, h3, h5, h6, h7, h8, h9, hlt, hlt2, hlt3, G6, att, B9, hn]; have hal2 := a6o (l[k].2.take j) vs; have hf := c0o ((l[k].2.take j).foldl ins vs) l[k].2[j] (by simp only [List.length_take, List.length_nil] at hal2 hv; omega); simp only [B9] at hf; refine D8 hf ?_; simp -implicitDefEqProofs [h0, h3, h5, h6, h7, h8, h9, hlt, hlt2, hlt3, G6, att, B9, hn]; refine ⟨by omega, E5 hlt3 ⟨by simp [h0, G6, att, B9], by simp [h3], by simp [h6], by simp [h5], by simp [h8], by simp, ?_⟩⟩; rw [G9 hlt3, List.foldl_append]; simp -implicitDefEqProofs [B9]
          · simp -implicitDefEqProofs [h0, h3, h5, h6, h7, h8, h9, hlt, hlt2, hlt3, G6, att, B9]; refine D8 (a4s _ hal.1) ?_; simp -implicitDefEqProofs [h0, h3, h5, h6, h7, h8, h9, hlt, hlt2, hlt3, G6, att, B9, hn]; refine ⟨by omega, E5 hlt ⟨by simp [h0, G6, att, B9], by simp [h3], by simp [h6], by simp [h5], by simp, ?_⟩⟩; rw [hst, a0w, if_pos hn]; rw [ttl (by omega)] at h7; simp -implicitDefEqProofs [h7, B9]
        · rw [if_neg hn] at h7; simp -implicitDefEqProofs [h0, h3, h5, h6, h7, h8, h9, hlt, hlt2, G6, att, B9]; refine D8 (a4s _ hal.1) ?_; simp (config := { maxSteps := 1000000 }) [h0, h3, h5, h6, h7, h8, h9, hlt, hlt2, G6, att, B9, hn]; refine ⟨by omega, E5 hlt ⟨by simp [h0, G6, att, B9], by simp [h3], by simp [h6], by simp [h5], by simp, ?_⟩⟩; rw [hst, a0w, if_neg hn]; simp -implicitDefEqProofs [h7, B9]
      · have hw := b7D l ns i; rw [ttl (by omega)] at h7; simp -implicitDefEqProofs [h0, h3, h5, h6, h7, h8, hlt, hlt2, G6, att, B9]; rw [c2g l hi]; refine ⟨by omega, by omega, by omega, E5 hlt2 ⟨by simp [h0, G6, att, B9], by simp [h3], by simp, ?_⟩⟩; simp -implicitDefEqProofs [b9f l hlt2, B9]
    · simp -implicitDefEqProofs [h0, h3, h5, h6, hlt2, G6, att, B9]; rw [← hN]; exact c0O l i (by rw [hN]; omega)
theorem b4Z (c : UInt8) : Ctr prog 109 [.d (u8 c)] (.d (.bool (decide (65 ≤ (c.toNat : Int)) && decide ((c.toNat : Int) ≤ 90)))) := by
  refine fv (fun _ => false) func109 (by kernel_rfl) rfl rfl rfl rfl rfl ?_; by_cases h1 : 65 ≤ (c.toNat : Int) <;> simp [u8, h1]
theorem b0T (c : UInt8) : Ctr prog 107 [.d (u8 c)] (.d (.bool (a2G c))) := by
  refine fv (fun _ => false) func107 (by kernel_rfl) rfl rfl rfl rfl rfl ?_; simp -implicitDefEqProofs; refine A1 (b4Z c) ?_; by_cases h1 : 97 ≤ (c.toNat : Int) <;> by_cases h2 : (c.toNat : Int) ≤ 122 <;> by_cases h3 : 65 ≤ (c.toNat : Int) <;> by_cases h4 : (c.toNat : Int) ≤ 90 <;> simp -implicitDefEqProofs [u8, a2G, h1, h2, h3, h4]
theorem b9T (c : UInt8) : Ctr prog 108 [.d (u8 c)] (.d (.bool (a8v c))) := by
  refine fv (fun _ => false) func108 (by kernel_rfl) rfl rfl rfl rfl rfl ?_; by_cases h1 : 48 ≤ (c.toNat : Int) <;> simp [u8, a8v, h1]
theorem b6V (c : UInt8) : Ctr prog 106 [.d (u8 c)] (.d (.bool (a1i c))) := by
  refine fv (fun _ => false) func106 (by kernel_rfl) rfl rfl rfl rfl rfl ?_; simp -implicitDefEqProofs [u8]; refine A1 (b0T c) ?_; by_cases h1 : a2G c = true
  · simp -implicitDefEqProofs [h1, a1i]
  · simp -implicitDefEqProofs [h1]; refine A1 (b9T c) ?_; by_cases h2 : a8v c = true <;> by_cases h3 : (c.toNat : Int) = 45 <;> simp [h1, h2, h3, a1i]
def a0J (n : Str) : List Att → List Str
  | [] => []
  | a :: l => if a.1 = n then a.2 else a0J n l
def a4V (l : List Att) (name : Str) : List Str := a0J (C8 name) (F5 l)
theorem b7W {n : Str} {l : List Att} {k : Nat} (h : k < l.length) : a0J n (l.drop k) = if l[k].1 = n then l[k].2 else a0J n (l.drop (k + 1)) := by
  rw [List.drop_eq_getElem_cons h, a0J]
theorem a9X (l : List Att) : (F5 l).length ≤ l.length := by
  have := a4z l []; simp only [List.length_nil, Nat.zero_add] at this; simpa [F5, V5] using this
theorem b5U (l : List Att) : ∀ a ∈ F5 l, a.2.length ≤ H1 l := by
  intro a ha; simp only [F5, List.mem_map] at ha; obtain ⟨n, _, rfl⟩ := ha; simpa [Z1] using a9f n l []
theorem b2b (n : Str) (c : Nat) : ∀ (l : List Att), (∀ a ∈ l, a.2.length ≤ c) → (a0J n l).length ≤ c
  | [], _ => by simp [a0J]
  | a :: l, h => by
    rw [a0J]; split
    · exact h a (by simp)
    · exact b2b n c l fun b hb => h b (by simp [hb])
theorem c1P (l : List Att) (n : Str) : (a4V l n).length ≤ H1 l := b2b _ _ _ (b5U l)
theorem c3u (l : List Att) (name : Str) (hl : a4r l) (hn : List.length name < 1000000) : Ctr prog 59 [.d (G6 l), .d (.str name)] (.d (B9 (a4V l name))) := by
  refine fv (fun _ => false) func59 (by kernel_rfl) rfl rfl rfl rfl rfl ?_; simp -implicitDefEqProofs; refine A1 (a5v l hl) ?_; have hs := a9X l; have hl1 := hl.1.1; generalize hS : F5 l = s at *; simp -implicitDefEqProofs; refine H3 s.length (fun k τ => τ 1 = .d (.str name) ∧ τ 5 = .own false 72 (s.map att) ∧ τ 6 = .d (.int .i64 k) ∧ a4V l name = a0J (C8 name) (s.drop k)) (by simp [a4V, hS]) ?_; rintro k τ hk ⟨h1, h5, h6, hg⟩; by_cases hlt : k < s.length
  · rw [b7W hlt] at hg; simp -implicitDefEqProofs [h1, h5, h6, hlt, att, B9]; refine D8 (a4s _ hn) ?_; by_cases he : s[k].1 = C8 name
    · simp -implicitDefEqProofs [h1, h5, h6, hlt, att, B9, he]; rw [hg, if_pos he]
    · simp -implicitDefEqProofs [h1, h5, h6, hlt, att, B9, he]; refine ⟨by omega, E5 hlt ⟨by simp [h1], by simp [h5], by simp, ?_⟩⟩; rw [hg, if_neg he]
  · simp -implicitDefEqProofs [h1, h5, h6, hlt, att, B9]; rw [hg, List.drop_eq_nil_of_le (by omega)]; simp [a0J]
theorem c4a (l : List Att) (name v : Str) (hl : a4r l) (hn : List.length name < 1000000) : Ctr prog 25 [.d (G6 l), .d (.str name), .d (.str v)] (.d (.bool (decide (v ∈ a4V l name)))) := by
  refine fv (fun _ => false) func25 (by kernel_rfl) rfl rfl rfl rfl rfl ?_; simp -implicitDefEqProofs; refine A1 (c3u l name hl hn) ?_; simp -implicitDefEqProofs; have := c1P l name; have := hl.2; refine A1 (c6h _ _ (by omega)) ?_; simp -implicitDefEqProofs
theorem c4y (s : Str) (hs : List.length s < 1000000) : Ctr prog 105 [.d (.str s), .d (.clo 106 [])] (.d (.bool (s.all a1i && decide (s ≠ []) && decide (s.length ≤ 64)))) := by
  refine fv (fun _ => false) func105 (by kernel_rfl) rfl rfl rfl rfl rfl ?_; simp -implicitDefEqProofs; refine H3 (List.length s) (fun k τ => τ 0 = .d (.str s) ∧ τ 1 = .d (.clo 106 []) ∧ τ 7 = .d (.int .i64 (List.length s)) ∧ τ 8 = .d (.int .i64 k) ∧ ∀ x ∈ s.take k, a1i x = true) (by simp) ?_; rintro k τ hk ⟨h0, h1, h7, h8, ha⟩; by_cases hlt : k < List.length s
  · simp -implicitDefEqProofs [h0, h1, h7, h8, hlt]; refine A1 (b6V s[k]) ?_; by_cases e1 : a1i s[k] = true
    · simp -implicitDefEqProofs [h0, h1, h7, h8, hlt, e1]; exact ⟨by omega, E5 hlt ⟨by simp [h0], by simp [h1], by simp [h7], by simp, b4G hlt ha e1⟩⟩
    · simp -implicitDefEqProofs [h0, h1, h7, h8, hlt, e1]; intro h; exact absurd (h _ (gmm hlt)) e1
  · rw [ttl (by omega)] at ha; have hall : List.all s a1i = true := (by simpa using ha); by_cases e2 : s = []
    · simp -implicitDefEqProofs [h0, h1, h7, h8, hlt, e2]
    · simp -implicitDefEqProofs [h0, h1, h7, h8, hlt, e2, hall]
      all_goals omega
theorem a9p (s : Str) (hs : List.length s < 1000000) : Ctr prog 55 [.d (.str s)] (.d (.bool (S3 s))) := by
  refine fv (fun _ => false) func55 (by kernel_rfl) rfl rfl rfl rfl rfl ?_; simp -implicitDefEqProofs; refine A1 (c4y s hs) ?_; by_cases e : (s.all a1i && decide (s ≠ []) && decide (s.length ≤ 64)) = true
  · have e0 := e; simp only [Bool.and_eq_true, decide_eq_true_eq] at e; obtain ⟨⟨e1, e2⟩, e3⟩ := e; obtain ⟨c, t, rfl⟩ := List.exists_cons_of_ne_nil e2; simp only [e0]; simp -implicitDefEqProofs; refine A1 (b0T c) ?_; have e4 : (List.length (c :: t)) ≤ 64 := e3; simp -implicitDefEqProofs [S3, e1, e4]; intro _; simpa using e4
  · rw [Bool.not_eq_true] at e; simp only [e]; simp -implicitDefEqProofs [S3]; intro h1 h2 _; have hne : s ≠ [] := by
      rintro rfl; simp at h1
    simpa [hne, h2] using e
def fil (n : Str) (s : List Att) : List Att := s.filter fun a => !decide (a.1 = n)
def b5h (l : List Att) (name : Str) : List Att := fil (C8 name) (F5 l)
def a5B (l : List Att) (name : Str) (v : List Str) : List Att × Int :=
  if 32 < (F5 (b5h l name ++ [(name, v)])).length ∨ 16 < v.length then ([], 3) else (F5 (b5h l name ++ [(name, v)]), 0)
def a2g {α : Type} (p : α → Bool) : Nat → List α → Int
  | _, [] => -1
  | k, x :: l => if p x = true then k else a2g p (k + 1) l
theorem b9d {α : Type} {p : α → Bool} {l : List α} {k : Nat} (h : k < l.length) : a2g p k (l.drop k) = if p l[k] = true then (k : Int) else a2g p (k + 1) (l.drop (k + 1)) := by
  rw [List.drop_eq_getElem_cons h, a2g]
end Go.Proofs.Tz
namespace Go.Proofs.Tz
open Go.Vw Go.RowKit Go.Proofs
def b1l {α : Type} (p : α → Bool) (l : List α) (k : Nat) : Bool := (l.take k).any p
end Go.Proofs.Tz
namespace Go.Proofs.Tz
open Go.Vw
theorem c2W {c : UInt8} (h : ¬ (65 ≤ (c.toNat : Int) ∧ (c.toNat : Int) ≤ 90)) : a0P c = c := if_neg h
def a1J (s : Str) (k : Nat) : List D := ((C8 (s.take k)) ++ s.drop k).map u8
theorem b9B (s : Str) (k : Nat) (h : k ≤ List.length s) : (a1J s k).length = List.length s := by simp [a1J, C8]; omega
theorem c0m (s : Str) (k : Nat) (h : k < List.length s) : (a1J s k)[k]? = some (u8 s[k]) := by
  have hl : (C8 (s.take k)).length = k := by simp [C8]; omega
  simp only [a1J, List.getElem?_map]; rw [List.getElem?_append_right (by omega), hl, Nat.sub_self]; simp [h]
theorem c0N (s : Str) (k : Nat) (h : k < List.length s) : (a1J s k).set k (u8 (a0P s[k])) = a1J s (k + 1) := by
  have hl : (C8 (s.take k)).length = k := by simp [C8]; omega
  simp only [a1J, ← List.map_set]; rw [List.set_append_right _ _ (by omega), hl, Nat.sub_self, List.drop_eq_getElem_cons h, List.set_cons_zero, G9 h]; simp only [C8, List.map_append, List.map_cons, List.map_nil, List.append_assoc, List.singleton_append]
theorem a2k (s : Str) (hs : List.length s < 1000000) : Ctr prog 56 [.d (.str s)] (.d (.str (C8 s))) := by
  refine fv (fun i => decide (i < 1000000)) func56 (by kernel_rfl) rfl rfl rfl rfl rfl ?_; simp -implicitDefEqProofs; refine ⟨by omega, ?_⟩; refine H3 (List.length s) (fun k τ => τ 9 = .d (.int .i64 k) ∧ τ 8 = .d (.int .i64 (List.length s)) ∧ τ 3 = .own true 100005 (a1J s k)) (by simp [a1J, C8, D2, u8]) ?_; rintro k τ hk ⟨h9, h8, h3⟩; have hlen := b9B s k hk; by_cases hlt : k < List.length s
  · have hg := c0m s k hlt; have hset := c0N s k hlt; generalize a1J s k = M at *; have hlt2 : k < M.length := (by omega); have hg2 : M[k] = u8 s[k] := (List.getElem?_eq_some_iff.1 hg).2; simp -implicitDefEqProofs [h9, h8, h3, hlt, hlt2, hg2, u8]; refine A1 (b4Z _) ?_; by_cases h1 : 65 ≤ (s[k].toNat : Int) ∧ (s[k].toNat : Int) ≤ 90
    · simp -implicitDefEqProofs [h9, h8, h3, hlt, hlt2, hg2, u8, h1.1, h1.2]; have e : u8 (a0P s[k]) = .int .u8 ((s[k].toNat : Int) + 32) := by
        simp only [u8, a3F _ h1.1 h1.2]; congr 1; omega
      rw [e] at hset; exact ⟨by omega, by omega, E5 hlt ⟨by simp, by simp [h8], by simp [hset]⟩⟩
    · have hb : (decide (65 ≤ (s[k].toNat : Int)) && decide ((s[k].toNat : Int) ≤ 90)) = false := (by simpa using h1); simp -implicitDefEqProofs [h9, h8, h3, hlt, hlt2, hg2, u8, hb]; rw [c2W h1, ← hg2, List.set_getElem_self] at hset; exact ⟨by omega, E5 hlt ⟨by simp, by simp [h8], by simp [h3, hset]⟩⟩
  · simp -implicitDefEqProofs [h9, h8, h3, hlt]; have e : a1J s k = D2 (C8 s) := by
      have : k = List.length s := (by omega); subst this; simp [a1J, D2, u8]
    simp -implicitDefEqProofs [e, h3]
theorem c5K {x c : UInt8} (h : ¬ x = c) : ¬ ((x.toNat : Int) = c.toNat) := fun e => h (UInt8.toNat_inj.1 (by omega))
def X6 (c : UInt8) (s : Str) : Str := s.dropWhile fun x => decide (x = c)
def R7 (c : UInt8) (s : Str) : Str := (s.reverse.dropWhile fun x => decide (x = c)).reverse
theorem c2T (s : Str) (c : UInt8) : Ctr prog 191 [.d (.str s), .d (u8 c)] (.d (.str (X6 c s))) := by
  refine fv (fun _ => false) func191 (by kernel_rfl) rfl rfl rfl rfl rfl ?_; simp -implicitDefEqProofs [u8]; refine b0M (fun n τ => ∃ t : Str, n = t.length ∧ τ 0 = .d (.str t) ∧ τ 1 = .d (.int .u8 c.toNat) ∧ X6 c t = X6 c s) s.length ⟨s, rfl, by simp, by simp, rfl⟩ ?_; rintro n τ ⟨t, rfl, h0, h1, ht⟩; cases t with
  | nil =>
    simp -implicitDefEqProofs [h0, h1]; rw [← ht]; rfl
  | cons x t =>
    by_cases hx : x = c
    · subst hx; simp -implicitDefEqProofs [h0, h1]; exact ⟨_, by omega, t, rfl, rfl, by rw [← ht, X6, X6, List.dropWhile_cons, if_pos (by simp)]⟩
    · have := c5K hx; simp -implicitDefEqProofs [h0, h1, this]; rw [← ht, X6, List.dropWhile_cons, if_neg (by simp [hx])]
theorem a2T {c : UInt8} {t : Str} (h : 0 < List.length t) : R7 c t = if t[List.length t - 1] = c then R7 c (t.take (List.length t - 1)) else t := by
  have e : t = t.take (List.length t - 1) ++ [t[List.length t - 1]] := by
    have := G9 (l := t) (k := List.length t - 1) (by omega); rw [show List.length t - 1 + 1 = List.length t by omega, List.take_length] at this; exact this
  conv => lhs; rw [e]
  rw [R7, List.reverse_append, List.reverse_singleton, List.singleton_append, List.dropWhile_cons]; by_cases hx : t[List.length t - 1] = c
  · rw [if_pos (by simpa using hx), if_pos hx, R7]
  · rw [if_neg (by simpa using hx), if_neg hx, List.reverse_cons, List.reverse_reverse]; exact e.symm
theorem c1c (s : Str) (c : UInt8) (hs : List.length s < 1000000) : Ctr prog 192 [.d (.str s), .d (u8 c)] (.d (.str (R7 c s))) := by
  refine fv (fun _ => false) func192 (by kernel_rfl) rfl rfl rfl rfl rfl ?_; simp -implicitDefEqProofs [u8]; refine b0M (fun n τ => ∃ t : Str, n = t.length ∧ τ 0 = .d (.str t) ∧ τ 1 = .d (.int .u8 c.toNat) ∧ List.length t < 1000000 ∧ R7 c t = R7 c s) s.length ⟨s, rfl, by simp, by simp, hs, rfl⟩ ?_; rintro n τ ⟨t, rfl, h0, h1, hl, ht⟩; by_cases hpos : 0 < List.length t
  · have hi : 0 ≤ (List.length t : Int) - 1 := (by omega); have hi2 : ((List.length t : Int) - 1).toNat = List.length t - 1 := (by omega); have hi3 : List.length t - 1 < List.length t := (by omega); have hi4 : -9223372036854775808 ≤ (List.length t : Int) - 1 := (by omega); have hi5 : (List.length t : Int) - 1 ≤ 9223372036854775807 := (by omega); have hi6 : 1 ≤ (List.length t : Int) := (by omega); have hz : ¬ t = [] := fun e => by subst e; simp at hpos
    rw [a2T hpos] at ht; by_cases hx : t[List.length t - 1] = c
    · rw [if_pos hx] at ht; simp -implicitDefEqProofs [h0, h1, hpos, hi, hi2, hi3, hi4, hi5, hi6, hx, hz]; exact ⟨List.length t - 1, by omega, t.take (List.length t - 1), by rw [List.length_take]; omega, rfl, by rw [List.length_take]; omega, ht⟩
    · have := c5K hx; rw [if_neg hx] at ht; simp -implicitDefEqProofs [h0, h1, hpos, hi, hi2, hi3, hi4, hi5, hi6, this, hz]; exact ht
  · obtain rfl : t = [] := List.eq_nil_of_length_eq_zero (by omega); simp -implicitDefEqProofs [h0, h1]; rw [← ht]; rfl
def I5 (s : Str) : Str := X6 32 (R7 32 s)
theorem b7j (s : Str) (hs : List.length s < 1000000) : Ctr prog 149 [.d (.str s), .d (.str [32])] (.d (.str (I5 s))) := by
  refine fv (fun _ => false) func149 (by kernel_rfl) rfl rfl rfl rfl rfl ?_; by_cases hz : s = []
  · subst hz; simp -implicitDefEqProofs; try rfl
  simp -implicitDefEqProofs [hz]; have h1 : Ctr prog 192 [.d (.str s), .d (.int .u8 32)] (.d (.str (R7 32 s))) := c1c s 32 hs; have h2 : Ctr prog 191 [.d (.str (R7 32 s)), .d (.int .u8 32)] (.d (.str (I5 s))) := c2T (R7 32 s) 32; refine D8 h1 ?_; simp -implicitDefEqProofs [hz]; refine D8 h2 ?_; simp -implicitDefEqProofs [hz]
theorem a8x (s : Str) (hs : List.length s < 1000000) : Ctr prog 110 [.d (.str s)] (.d (.str (I5 s))) := by
  refine fv (fun _ => false) func110 (by kernel_rfl) rfl rfl rfl rfl rfl ?_; simp -implicitDefEqProofs; refine A1 (b7j s hs) ?_; simp -implicitDefEqProofs
def a2n (s : Str) : Bool := s.all a0X && decide (s ≠ []) && decide (List.length s ≤ 256) && decide (I5 s = s)
theorem c5G {s : Str} {k : Nat} (h : k < List.length s) (hc : s[k].toNat < 128) : Go.Utf8.decode ⟨s.toArray⟩ k = (s[k].toNat, 1) := by
  have hb : k < (⟨s.toArray⟩ : ByteArray).size := (by simpa [ByteArray.size] using h); have e : (⟨s.toArray⟩ : ByteArray)[k]'hb = s[k] := rfl; have := decode_ascii ⟨s.toArray⟩ k hb (by rw [e]; exact hc); rw [e] at this; exact this
theorem c5e {s : Str} {k : Nat} (h : k < List.length s) (hc : 128 ≤ s[k].toNat) : 128 ≤ (Go.Utf8.decode ⟨s.toArray⟩ k).1 := by
  have hb : k < (⟨s.toArray⟩ : ByteArray).size := (by simpa [ByteArray.size] using h); have e : (⟨s.toArray⟩ : ByteArray)[k]'hb = s[k] := rfl; exact (decode_high ⟨s.toArray⟩ k hb (by rw [e]; exact hc)).1
theorem b0U (c : UInt8) (s : Str) : List.length (X6 c s) ≤ List.length s := (List.dropWhile_sublist _).length_le
theorem b0k (c : UInt8) (s : Str) : List.length (R7 c s) ≤ List.length s := by
  have := (List.dropWhile_sublist (fun x : UInt8 => decide (x = c)) (l := s.reverse)).length_le; simpa [R7] using this
theorem b9y {s : Str} (h : 0 < List.length s) : I5 s = s ↔ s[0] ≠ 32 ∧ s[List.length s - 1] ≠ 32 := by
  constructor
  · intro e; have h1 := b0U 32 (R7 32 s); have h2 := b0k 32 s; have h3 : List.length (I5 s) = List.length s := by rw [e]
    rw [I5] at h3; have hr : s[List.length s - 1] ≠ 32 := by
      intro h4; rw [a2T h, if_pos h4] at h3 h1; have h5 := b0k 32 (s.take (List.length s - 1)); rw [List.length_take] at h5; omega
    refine ⟨fun h4 => ?_, hr⟩; rw [I5, a2T h, if_neg hr] at e; cases s with
    | nil => simp at h
    | cons x t =>
      simp only [List.getElem_cons_zero] at h4; rw [X6, List.dropWhile_cons, if_pos (by simp [h4])] at e; have := b0U 32 t; rw [X6, e, List.length_cons] at this; omega
  · rintro ⟨h1, h2⟩; rw [I5, a2T h, if_neg h2]; cases s with
    | nil => rfl
    | cons x t => rw [X6, List.dropWhile_cons, if_neg (by simpa using h1)]
theorem a6S (s : Str) : a2n s = R8 s := by
  by_cases h : 0 < List.length s
  · have hne : s ≠ [] := fun e => by subst e; simp at h
    have hh : s.head? = some s[0] := (by simp [List.head?_eq_getElem?, h]); have hl : s.getLast? = some s[List.length s - 1] := by rw [List.getLast?_eq_getElem?, List.getElem?_eq_getElem (by omega)]
    rw [Bool.eq_iff_iff]; simp only [a2n, R8, Bool.and_eq_true, decide_eq_true_eq, b9y h, hh, hl, bne_iff_ne, ne_eq, Option.some.injEq]; have : 1 ≤ List.length s := h; constructor
    · rintro ⟨⟨⟨a, b⟩, c⟩, d, e⟩; exact ⟨⟨⟨⟨this, c⟩, d⟩, e⟩, a⟩
    · rintro ⟨⟨⟨⟨_, c⟩, d⟩, e⟩, a⟩; exact ⟨⟨⟨a, hne⟩, c⟩, d, e⟩
  · obtain rfl : s = [] := List.eq_nil_of_length_eq_zero (by omega); rfl
theorem a7J (s : Str) (hs : List.length s < 1000000) : Ctr prog 57 [.d (.str s)] (.d (.bool (a2n s))) := by
  refine fv (fun _ => false) func57 (by kernel_rfl) rfl rfl rfl rfl rfl ?_; simp -implicitDefEqProofs; refine H3 (List.length s) (fun k τ => τ 0 = .d (.str s) ∧ τ 6 = .iter s k ∧ ∀ x ∈ s.take k, a0X x = true) (by simp) ?_; rintro k τ hk ⟨h0, h6, hall⟩; by_cases hlt : k < List.length s
  · by_cases ha : s[k].toNat < 128
    · have hd := c5G hlt ha; by_cases e1 : (s[k].toNat : Int) < 32
      · have e1' : ¬ 32 ≤ (s[k].toNat : Int) := (by omega); simp -implicitDefEqProofs [h0, h6, hlt, hd, e1]; simp [a2n, b1G hlt (show a0X s[k] = false by simp [a0X, e1'])]
      · by_cases e2 : 126 < (s[k].toNat : Int)
        · have e2' : ¬ (s[k].toNat : Int) ≤ 126 := (by omega); simp -implicitDefEqProofs [h0, h6, hlt, hd, e1, e2]; simp [a2n, b1G hlt (show a0X s[k] = false by simp [a0X, e2'])]
        · have e1' : 32 ≤ (s[k].toNat : Int) := (by omega); have e2' : (s[k].toNat : Int) ≤ 126 := (by omega); simp -implicitDefEqProofs [h0, h6, hlt, hd, e1, e2]; exact E5 hlt ⟨by simp [h0], by simp, b4G hlt hall (by simp [a0X, e1', e2'])⟩
    · have hd := c5e hlt (by omega); have e1 : ¬ ((Go.Utf8.decode ⟨s.toArray⟩ k).1 : Int) < 32 := (by omega); have e2 : 126 < ((Go.Utf8.decode ⟨s.toArray⟩ k).1 : Int) := (by omega); have e2' : ¬ (s[k].toNat : Int) ≤ 126 := (by omega); simp -implicitDefEqProofs [h0, h6, hlt, e1, e2]; simp [a2n, b1G hlt (show a0X s[k] = false by simp [a0X, e2'])]
  · rw [ttl (by omega)] at hall; have hall' : s.all a0X = true := List.all_eq_true.2 hall; by_cases hz : s = []
    · subst hz; simp -implicitDefEqProofs [h0, h6, a2n]
    · by_cases h2 : (List.length s : Int) ≤ 256
      · have h2' : List.length s ≤ 256 := (by omega); simp -implicitDefEqProofs [h0, h6, hlt, hz, h2]; refine A1 (a8x s hs) ?_; simp -implicitDefEqProofs [h0, h6, hlt, hz, h2, a2n, hall', h2']
      · have h2' : ¬ List.length s ≤ 256 := (by omega); simp -implicitDefEqProofs [h0, h6, hlt, hz, h2, a2n, h2']
end Go.Proofs.Tz
namespace Go.Proofs.Tz
open Go.Vw Go.RowKit Go.Proofs
def V0 (c : UInt8) : Bool := decide (c = 44) || decide (c = 61) || decide (c = 43) || decide (c = 92)
def F6 (c : UInt8) : Str → Nat
  | [] => 0
  | [x] => if x = c then 0 else 1
  | x :: y :: r => if x = c then 0 else if x = 92 then 2 + F6 c r else 1 + F6 c (y :: r)
def a1q : Nat → Str → List Str
  | 0, s => [s]
  | n + 1, s => if F6 44 s < s.length then s.take (F6 44 s) :: a1q n (s.drop (F6 44 s + 1)) else [s]
def P2 (s : Str) : List Str := a1q s.length s
theorem b0z : ∀ (n m : Nat) (s : Str), s.length ≤ n → s.length ≤ m → a1q n s = a1q m s
  | 0, 0, _, _, _ => rfl
  | 0, m + 1, s, h, _ => by
    have : s = [] := List.length_eq_zero_iff.1 (by omega); subst this; simp [a1q]
  | n + 1, 0, s, _, h => by
    have : s = [] := List.length_eq_zero_iff.1 (by omega); subst this; simp [a1q]
  | n + 1, m + 1, s, h1, h2 => by
    simp only [a1q]; split
    · rw [b0z n m _ (by simp only [List.length_drop]; omega) (by simp only [List.length_drop]; omega)]
    · rfl
theorem a5A {s : Str} (h : F6 44 s < s.length) : P2 s = s.take (F6 44 s) :: P2 (s.drop (F6 44 s + 1)) := by
  obtain ⟨n, hn⟩ : ∃ n, s.length = n + 1 := ⟨s.length - 1, by omega⟩; rw [P2, hn, a1q, if_pos h, P2, b0z n _ _ (by simp only [List.length_drop]; omega) (Nat.le_refl _)]
theorem a2M {s : Str} (h : ¬ F6 44 s < s.length) : P2 s = [s] := by
  rw [P2]; cases s.length with
  | zero => rfl
  | succ n => rw [a1q, if_neg h]
def O5 : Str → Option Str
  | [] => some []
  | [x] => if x = 92 then none else if V0 x = true then none else some [x]
  | x :: y :: r => if x = 92 then (if V0 y = true then (O5 r).map (y :: ·) else none) else if V0 x = true then none else (O5 (y :: r)).map (x :: ·)
def NoU (c : UInt8) : Str → Prop
  | [] => True
  | [x] => x ≠ c
  | x :: y :: r => x ≠ c ∧ if x = 92 then NoU c r else NoU c (y :: r)
theorem NoU.before {c : UInt8} : ∀ {s : Str}, NoU c (s.take (F6 c s))
  | [] => by simp [NoU]
  | [x] => by
    simp only [F6]; split
    · simp [NoU]
    · rename_i h; simpa [NoU] using h
  | x :: y :: r => by
    simp only [F6]; by_cases h1 : x = c
    · simp [h1, NoU]
    · rw [if_neg h1]; by_cases h2 : x = 92
      · rw [if_pos h2]; have e : 2 + F6 c r = F6 c r + 2 := (by omega); rw [e]; refine ⟨h1, ?_⟩; rw [if_pos h2]; exact NoU.before
      · rw [if_neg h2]; have ih := NoU.before (c := c) (s := y :: r); have e : 1 + F6 c (y :: r) = F6 c (y :: r) + 1 := (by omega); rw [e, List.take_succ_cons]; generalize List.take (F6 c (y :: r)) (y :: r) = t at *; cases t with
        | nil => exact h1
        | cons z t => exact ⟨h1, by rw [if_neg h2]; exact ih⟩
abbrev F7 := Str × Str
def O0 (p : F7) : D := .agg [.str p.1, .str p.2]
def J8 (l : List F7) : D := .sl (l.map O0)
def T6 (s : Str) : F7 × Int :=
  if F6 61 s < s.length then
    (match O5 (I5 (s.drop (F6 61 s + 1))) with
     | none => (([], []), 4)
     | some v => if S3 (I5 (s.take (F6 61 s))) = false then (([], []), 5) else if R8 v = false then (([], []), 8) else ((I5 (s.take (F6 61 s)), v), 0))
  else (([], []), 4)
def P6 (out : List F7) : List Str → List F7 × Int
  | [] => if 8 < out.length then ([], 3) else (out, 0)
  | p :: ps => if (T6 p).2 = 0 then P6 (out ++ [(T6 p).1]) ps else ([], (T6 p).2)
def E0 (s : Str) : List F7 × Int := if s = [] then ([], 0) else P6 [] (P2 s)
def sqz (prev : UInt8) : Str → Str
  | [] => []
  | x :: r => if x = 32 ∧ prev = 32 then sqz x r else x :: sqz x r
def W1 (s : Str) : Str := sqz 0 (C8 (I5 s))
def Q8 (s : Str) : Str := s.flatMap fun c => if V0 c = true then [92, c] else [c]
def U4 (p : F7) : Str := C8 p.1 ++ 61 :: Q8 (W1 p.2)
def U0 (p : F7) : Int := if S3 p.1 = false then 5 else if R8 p.2 = false then 8 else 0
def a0d : List F7 → Int
  | [] => 0
  | p :: l => if U0 p = 0 then a0d l else U0 p
def Z2 (l : List F7) : Int := if a0d l = 0 then (if 8 < l.length then 3 else 0) else a0d l
def H5 (l : List F7) : Str × Int := if Z2 l = 0 then (D6 44 (l.map U4), 0) else ([], Z2 l)
def L4 (s : Str) : Option (List F7) := if (E0 s).2 = 0 ∧ H5 (E0 s).1 = (s, 0) then some (E0 s).1 else none
def K3 (s : Str) : Bool := (L4 s).isSome
def CU : Str → Prop
  | [] => True
  | [x] => x ≠ 92 ∧ x ≠ 44
  | x :: y :: r => x ≠ 44 ∧ if x = 92 then CU r else CU (y :: r)
theorem CU.next : ∀ {p : Str}, CU p → ∀ (r : Str), F6 44 (p ++ 44 :: r) = p.length
  | [], _, r => by cases r <;> simp [F6]
  | [x], h, r => by
    simp only [CU] at h; have i := CU.next (p := []) trivial r; simp only [List.nil_append] at i; simp [F6, h.1, h.2, i]
  | x :: y :: t, h, r => by
    simp only [CU] at h; by_cases h2 : x = 92
    · rw [if_pos h2] at h; have i := CU.next h.2 r; simp only [List.cons_append, F6, if_neg h.1, if_pos h2, i, List.length_cons]; omega
    · rw [if_neg h2] at h; have i := CU.next h.2 r; simp only [List.cons_append] at i; simp only [List.cons_append, F6, if_neg h.1, if_neg h2, i, List.length_cons]; omega
theorem CU.all : ∀ {p : Str}, CU p → F6 44 p = p.length
  | [], _ => by simp [F6]
  | [x], h => by simp only [CU] at h; simp [F6, h.2]
  | x :: y :: t, h => by
    simp only [CU] at h; by_cases h2 : x = 92
    · rw [if_pos h2] at h; have i := CU.all h.2; simp only [F6, if_neg h.1, if_pos h2, i, List.length_cons]; omega
    · rw [if_neg h2] at h; have i := CU.all h.2; simp only [F6, if_neg h.1, if_neg h2, i, List.length_cons]; omega
theorem CU.cons {x : UInt8} {s : Str} (h1 : x ≠ 92) (h2 : x ≠ 44) (h : CU s) : CU (x :: s) := by
  cases s with
  | nil => exact ⟨h1, h2⟩
  | cons y r => exact ⟨h2, by rw [if_neg h1]; exact h⟩
theorem CU.esc {y : UInt8} {s : Str} (h : CU s) : CU (92 :: y :: s) := ⟨by decide, by rw [if_pos rfl]; exact h⟩
theorem CU.escV : ∀ (s : Str), CU (Q8 s)
  | [] => trivial
  | c :: s => by
    have ih := CU.escV s; have e : Tz.Q8 (c :: s) = (if V0 c = true then [92, c] else [c]) ++ Tz.Q8 s := (by simp [Tz.Q8]); rw [e]; by_cases h : V0 c = true
    · rw [if_pos h]; exact ih.esc
    · rw [if_neg h]; refine ih.cons ?_ ?_
      · rintro rfl; exact h (by decide)
      · rintro rfl; exact h (by decide)
theorem CU.pre : ∀ {a : Str} {b : Str}, (∀ x ∈ a, x ≠ 92 ∧ x ≠ 44) → CU b → CU (a ++ b)
  | [], b, _, h => h
  | x :: a, b, hx, h => CU.cons (hx x (by simp)).1 (hx x (by simp)).2 (CU.pre (fun y hy => hx y (by simp [hy])) h)
theorem c2k {c : UInt8} (h : a1i c = true) : c ≠ 92 ∧ c ≠ 44 ∧ c ≠ 61 := by
  refine ⟨?_, ?_, ?_⟩ <;> (rintro rfl; revert h; decide)
theorem b9W {c : UInt8} (h : a1i c = true) : a1i (a0P c) = true := by
  by_cases h1 : 65 ≤ (c.toNat : Int) ∧ (c.toNat : Int) ≤ 90
  · have := a3F c h1.1 h1.2; simp only [a1i, a2G, Bool.or_eq_true, Bool.and_eq_true, decide_eq_true_eq]
    left; left; left
    omega
  · rw [a0P, if_neg h1]; exact h
theorem b6A {p : F7} (h : S3 p.1 = true) : CU (U4 p) := by
  refine CU.pre (fun x hx => ?_) ((CU.escV _).cons (by decide) (by decide)); simp only [C8, List.mem_map] at hx; obtain ⟨c, hc, rfl⟩ := hx; simp only [S3, Bool.and_eq_true, List.all_eq_true] at h; have := c2k (b9W (h.2 c hc)); exact ⟨this.1, this.2.1⟩
theorem b6n (p : F7) : U4 p ≠ [] := by simp [U4]
theorem a4Z : ∀ {l : List Str}, l ≠ [] → (∀ p ∈ l, CU p) → P2 (D6 44 l) = l
  | [], h, _ => absurd rfl h
  | [p], _, h => by
    simp only [D6]; exact a2M (by rw [(h p (by simp)).all]; omega)
  | p :: q :: l, _, h => by
    have hp := h p (by simp); have ih := a4Z (l := q :: l) (by simp) (fun x hx => h x (by simp at hx ⊢; right; exact hx)); have e : D6 44 (p :: q :: l) = p ++ 44 :: D6 44 (q :: l) := rfl; have hn := hp.next (D6 44 (q :: l)); rw [e, a5A (by rw [hn]; simp), hn]; have e1 : List.take p.length (p ++ 44 :: D6 44 (q :: l)) = p := (by simp); have e2 : List.drop (p.length + 1) (p ++ 44 :: D6 44 (q :: l)) = D6 44 (q :: l) := by rw [← List.drop_drop]; simp
    rw [e1, e2, ih]
theorem b4f {l : List Str} (h : l ≠ []) (hn : ∀ p ∈ l, p ≠ []) : D6 44 l ≠ [] := by
  match l, h with
  | [p], _ => exact hn p (by simp)
  | p :: q :: l, _ => simp [D6]
def NP (p : F7) : Prop := T6 (U4 p) = (p, 0)
theorem a6x {s : Str} {p : F7} (h : T6 s = (p, 0)) : S3 p.1 = true ∧ R8 p.2 = true := by
  unfold T6 at h; split at h
  · split at h
    · simp at h
    · split at h
      · simp at h
      · split at h
        · simp at h
        · rename_i h1 h2
          simp only [Prod.mk.injEq, and_true] at h; obtain ⟨rfl⟩ := h; exact ⟨by simpa using h1, by simpa using h2⟩
  · simp at h
theorem NP.pairE {p : F7} (h : NP p) : U0 p = 0 := by
  have := a6x h; simp [Tz.U0, this.1, this.2]
theorem a2V {l : List F7} : a0d l = 0 ↔ ∀ p ∈ l, U0 p = 0 := by
  induction l with
  | nil => simp [a0d]
  | cons p l ih =>
    simp only [a0d, List.mem_cons, forall_eq_or_imp]; by_cases h : U0 p = 0
    · simp [h, ih]
    · simp [h]
theorem a9Y : ∀ {ps : List Str} {qs out : List F7}, ps.length = qs.length → (∀ i (h1 : i < ps.length) (h2 : i < qs.length), T6 ps[i] = (qs[i], 0)) → P6 out ps = if 8 < (out ++ qs).length then ([], 3) else (out ++ qs, 0)
  | [], [], out, _, _ => by simp [P6]
  | p :: ps, q :: qs, out, hl, h => by
    have h0 := h 0 (by simp) (by simp); simp only [List.getElem_cons_zero] at h0; have ih := a9Y (ps := ps) (qs := qs) (out := out ++ [q]) (by simpa using hl) (fun i h1 h2 => by
      have := h (i + 1) (by simpa using h1) (by simpa using h2); simpa using this)
    simp only [P6, h0, if_true, ih, List.append_assoc, List.singleton_append]
  | [], _ :: _, _, hl, _ => by simp at hl
  | _ :: _, [], _, hl, _ => by simp at hl
theorem a6B : ∀ {ps : List Str} {out r : List F7}, P6 out ps = (r, 0) → ∃ qs, r = out ++ qs ∧ ps.length = qs.length ∧ r.length ≤ 8 ∧ ∀ i (h1 : i < ps.length) (h2 : i < qs.length), T6 ps[i] = (qs[i], 0)
  | [], out, r, h => by
    simp only [P6] at h; split at h
    · simp at h
    · rename_i h8
      simp only [Prod.mk.injEq, and_true] at h; subst h; exact ⟨[], by simp, rfl, by omega, fun i h1 => by simp at h1⟩
  | p :: ps, out, r, h => by
    simp only [P6] at h; split at h
    · rename_i h0
      obtain ⟨qs, hr, hl, h8, hq⟩ := a6B h; refine ⟨(T6 p).1 :: qs, by rw [hr]; simp, by simp [hl], h8, fun i h1 h2 => ?_⟩; cases i with
      | zero => simp only [List.getElem_cons_zero]; rw [← h0]
      | succ i => simpa using hq i (by simpa using h1) (by simpa using h2)
    · rename_i h0
      simp only [Prod.mk.injEq] at h; exact absurd h.2 h0
theorem c2z {l : List F7} (hn : ∀ p ∈ l, NP p) (h8 : l.length ≤ 8) : H5 l = (D6 44 (l.map U4), 0) ∧ L4 (D6 44 (l.map U4)) = some l := by
  have hE : a0d l = 0 := a2V.2 fun p hp => (hn p hp).pairE
  have hf : H5 l = (D6 44 (l.map U4), 0) := by
    have hc : Z2 l = 0 := by rw [Z2, if_pos hE, if_neg (by omega)]
    rw [H5, if_pos hc]
  have hp : E0 (D6 44 (l.map U4)) = (l, 0) := by
    unfold E0; by_cases h : l = []
    · subst h; rfl
    · rw [if_neg (b4f (by simpa using h) (by simp only [List.mem_map]; rintro _ ⟨p, _, rfl⟩; exact b6n p)), a4Z (by simpa using h) (by simp only [List.mem_map]; rintro _ ⟨p, hp, rfl⟩; exact b6A (a6x (hn p hp)).1)]; rw [a9Y (qs := l) (by simp) (fun i h1 h2 => by rw [List.getElem_map]; exact hn l[i] (gmm h2))]; simp only [List.nil_append]; rw [if_neg (by omega)]
  exact ⟨hf, by rw [L4, hp, if_pos ⟨rfl, hf⟩]⟩
theorem a1V {s : Str} {l : List F7} (h : L4 s = some l) : (∀ p ∈ l, NP p) ∧ l.length ≤ 8 ∧ s = D6 44 (l.map U4) ∧ E0 s = (l, 0) ∧ H5 l = (s, 0) := by
  unfold L4 at h; split at h
  · rename_i hh
    obtain ⟨h0, hf⟩ := hh; simp only [Option.some.injEq] at h; subst h; have hs : s = D6 44 ((E0 s).1.map U4) := by
      unfold H5 at hf; split at hf
      · simp only [Prod.mk.injEq, and_true] at hf; exact hf.symm
      · rename_i hc
        simp only [Prod.mk.injEq] at hf; exact absurd hf.2 hc
    have hchk : a0d (E0 s).1 = 0 ∧ (E0 s).1.length ≤ 8 := by
      unfold H5 at hf; split at hf
      · rename_i hc
        unfold Z2 at hc; split at hc
        · rename_i he
          split at hc
          · simp at hc
          · exact ⟨he, by omega⟩
        · rename_i he; exact absurd hc he
      · rename_i hc
        simp only [Prod.mk.injEq] at hf; exact absurd hf.2 hc
    have hP : E0 s = ((E0 s).1, 0) := by rw [← h0]
    refine ⟨fun p hp => ?_, hchk.2, hs, hP, hf⟩; generalize hl : (E0 s).1 = l at *; by_cases hnil : l = []
    · subst hnil; simp at hp
    · have hnm : ∀ q ∈ l, S3 q.1 = true := fun q hq => by
        have := (a2V.1 hchk.1) q hq; unfold U0 at this; split at this
        · simp at this
        · rename_i h1; simpa using h1
      have hsn : s ≠ [] := by
        rw [hs]; exact b4f (by simpa using hnil) (by simp only [List.mem_map]; rintro _ ⟨p, _, rfl⟩; exact b6n p)
      have hpc : P2 s = l.map U4 := by
        rw [hs]; exact a4Z (by simpa using hnil) (by simp only [List.mem_map]; rintro _ ⟨q, hq, rfl⟩; exact b6A (hnm q hq))
      rw [E0, if_neg hsn, hpc] at hP; obtain ⟨qs, hr, hlen, _, hq⟩ := a6B hP; simp only [List.nil_append] at hr; subst hr; obtain ⟨i, hi, rfl⟩ := List.getElem_of_mem hp; have := hq i (by simpa using hi) hi; rw [List.getElem_map] at this; exact this
  · cases h
theorem b2g {s t : Str} {l : List F7} (h1 : L4 s = some l) (h2 : L4 t = some l) : s = t := by rw [(a1V h1).2.2.1, (a1V h2).2.2.1]
theorem c0c {s t : Str} {l m : List F7} (h1 : L4 s = some l) (h2 : L4 t = some m) {n : List F7} (hn : ∀ p ∈ n, p ∈ l ∨ p ∈ m) (h8 : n.length ≤ 8) : H5 n = (D6 44 (n.map U4), 0) ∧ L4 (D6 44 (n.map U4)) = some n :=
  c2z (fun p hp => by
    rcases hn p hp with h | h
    · exact (a1V h1).1 p h
    · exact (a1V h2).1 p h) h8
def a3h (s : Str) : Nat := ((L4 s).getD []).length
abbrev Chg := Csn × Int × Str × Str × Str × Str
def A8 (c : Chg) : D := .agg [B5 c.1, .int .i64 c.2.1, .str c.2.2.1, .str c.2.2.2.1, .str c.2.2.2.2.1, .str c.2.2.2.2.2]
def G0 (l : List Chg) : D := .sl (l.map A8)
structure Q7 (c : Chg) : Prop where
  id : List.length c.2.2.1 < 900000
  name : List.length c.2.2.2.1 < 900000
  attr : List.length c.2.2.2.2.1 < 900000
  value : List.length c.2.2.2.2.2 < 900000
def G2 (op : Int) : Bool := decide (op = 1) || decide (op = 3)
def E9 (op : Int) : Bool := decide (op = 4) || decide (op = 5)
def J1 (c : Chg) : Bool := (!G2 c.2.1 && decide (c.2.2.2.1 ≠ [])) || (!E9 c.2.1 && (decide (c.2.2.2.2.1 ≠ []) || decide (c.2.2.2.2.2 ≠ [])))
def H8 (c : Chg) : Bool := (G2 c.2.1 && (decide (c.2.2.2.1 = []) || !K3 c.2.2.2.1)) || (E9 c.2.1 && (!S3 c.2.2.2.2.1 || decide (C8 c.2.2.2.2.1 ≠ c.2.2.2.2.1)))
def H7 (c : Chg) : Int :=
  if U2 c.1 = false ∨ c.2.1 < 1 ∨ 5 < c.2.1 then 2
  else if (a0y c.2.2.1).2 ≠ 0 ∨ J1 c = true then 4
  else if H8 c = true then 5
  else if E9 c.2.1 = true ∧ R8 c.2.2.2.2.2 = false then 8 else 0
abbrev o1W : Str := [99, 114, 101, 97, 116, 101]
abbrev o2W : Str := [114, 101, 109, 111, 118, 101]
abbrev o3W : Str := [114, 101, 110, 97, 109, 101]
abbrev o4W : Str := [112, 117, 116]
abbrev o5W : Str := [100, 114, 111, 112]
def opW (x : Int) : Str := if x = 1 then o1W else if x = 2 then o2W else if x = 3 then o3W else if x = 4 then o4W else if x = 5 then o5W else []
def b3V (c : Chg) : List Str :=
  if G2 c.2.1 = true then [opW c.2.1, Q1 c.1, c.2.2.1, a0i c.2.2.2.1]
  else if E9 c.2.1 = true then [opW c.2.1, Q1 c.1, c.2.2.1, a0i c.2.2.2.2.1, a0i c.2.2.2.2.2]
  else [opW c.2.1, Q1 c.1, c.2.2.1]
def a1s (c : Chg) : Str := D6 32 (b3V c)
def J6 (c : Chg) : Str × Int := if H7 c = 0 then (a1s c, 0) else ([], H7 c)
def I0 : Chg := ((0, 0, 0), 0, [], [], [], [])
structure OkC (c : Chg) : Prop where
  num : U2 c.1 = true
  op1 : 1 ≤ c.2.1
  op5 : c.2.1 ≤ 5
  id : (a0y c.2.2.1).2 = 0
  used : J1 c = false
  name : H8 c = false
  value : ¬ (E9 c.2.1 = true ∧ R8 c.2.2.2.2.2 = false)
theorem a0k {c : Chg} : H7 c = 0 ↔ OkC c := by
  unfold H7; constructor
  · intro h; split at h
    · cases h
    · rename_i h1
      split at h
      · cases h
      · rename_i h2
        split at h
        · cases h
        · rename_i h3
          split at h
          · cases h
          · rename_i h4
            simp only [not_or, Bool.not_eq_false, Int.not_lt] at h1; simp only [not_or, Classical.not_not, Bool.not_eq_true, ne_eq] at h2; exact ⟨h1.1, h1.2.1, h1.2.2, h2.1, h2.2, by simpa using h3, h4⟩
  · rintro ⟨a, b, c', d, e, f, g⟩; rw [if_neg (by rw [a]; simp; omega), if_neg (by rw [d, e]; simp), if_neg (by rw [f]; simp), if_neg g]
structure b8K (S R : List Chg) : Prop where
  asc : R.Pairwise fun a b => W6 a.1 b.1 < 0
  mem : ∀ r, r ∈ R ↔ (r ∈ S ∧ H7 r = 0 ∧ ∀ r' ∈ S, H7 r' = 0 → r'.1 = r.1 → a1s r ≤ a1s r')
theorem b8K.has {S R : List Chg} (h : b8K S R) : ∀ {r : Chg}, r ∈ S → H7 r = 0 → ∃ x ∈ R, x.1 = r.1 ∧ a1s x ≤ a1s r := by
  have key : ∀ (T : List Chg) (r : Chg), (∀ t ∈ T, t ∈ S) → r ∈ S → H7 r = 0 → ∃ x ∈ S, H7 x = 0 ∧ x.1 = r.1 ∧ a1s x ≤ a1s r ∧ ∀ t ∈ T, H7 t = 0 → t.1 = r.1 → a1s x ≤ a1s t := by
    intro T
    induction T with
    | nil => intro r _ hr hc; exact ⟨r, hr, hc, rfl, List.le_refl _, by simp⟩
    | cons t T ih =>
      intro r hT hr hc; obtain ⟨x, hx, hxc, hx1, hxl, hxm⟩ := ih r (fun y hy => hT y (by simp [hy])) hr hc; by_cases ht : H7 t = 0 ∧ t.1 = r.1
      · rcases List.le_total (a1s x) (a1s t) with hle | hle
        · exact ⟨x, hx, hxc, hx1, hxl, fun y hy hyc hy1 => by
            rcases List.mem_cons.1 hy with rfl | hy
            · exact hle
            · exact hxm y hy hyc hy1⟩
        · exact ⟨t, hT t (by simp), ht.1, ht.2, List.le_trans hle hxl, fun y hy hyc hy1 => by
            rcases List.mem_cons.1 hy with rfl | hy
            · exact List.le_refl _
            · exact List.le_trans hle (hxm y hy hyc hy1)⟩
      · exact ⟨x, hx, hxc, hx1, hxl, fun y hy hyc hy1 => by
          rcases List.mem_cons.1 hy with rfl | hy
          · exact absurd ⟨hyc, hy1⟩ ht
          · exact hxm y hy hyc hy1⟩
  intro r hr hc; obtain ⟨x, hx, hxc, hx1, hxl, hxm⟩ := key S r (fun _ h => h) hr hc; exact ⟨x, (h.mem x).2 ⟨hx, hxc, fun t ht htc ht1 => hxm t ht htc (by rw [ht1, hx1])⟩, hx1, hxl⟩
theorem c3e (a b : UInt8) : ((a.toNat : Int) = (b.toNat : Int)) ↔ a = b := by
  constructor
  · intro h; have : a.toNat = b.toNat := (by omega); exact UInt8.toNat_inj.1 this
  · rintro rfl; rfl
theorem c1X (c : UInt8) : V0 c = (decide ((c.toNat : Int) = 44) || decide ((c.toNat : Int) = 61) || decide ((c.toNat : Int) = 43) || decide ((c.toNat : Int) = 92)) := by
  have h := fun k (hk : k < 256) => W9 c k hk
  have h1 := h 44 (by omega); have h2 := h 61 (by omega); have h3 := h 43 (by omega); have h4 := h 92 (by omega); simp only [V0]; congr 1
  · congr 1
    · congr 1
      · exact decide_eq_decide.2 h1.symm
      · exact decide_eq_decide.2 h2.symm
    · exact decide_eq_decide.2 h3.symm
  · exact decide_eq_decide.2 h4.symm
theorem Z6 (c : UInt8) : Ctr prog 170 [.d (u8 c)] (.d (.bool (V0 c))) := by
  refine fv (fun _ => false) func170 (by kernel_rfl) rfl rfl rfl rfl rfl ?_; rw [c1X]; by_cases h1 : (c.toNat : Int) = 44 <;> by_cases h2 : (c.toNat : Int) = 61 <;> by_cases h3 : (c.toNat : Int) = 43 <;> simp -implicitDefEqProofs [u8, h1, h2, h3]
theorem a6A {c : UInt8} {s : Str} {k : Nat} (h : k < s.length) : F6 c (s.drop k) = if s[k] = c then 0 else if s[k] = 92 then (if k + 1 < s.length then 2 + F6 c (s.drop (k + 2)) else 1) else 1 + F6 c (s.drop (k + 1)) := by
  rw [a2d h]; by_cases h2 : k + 1 < s.length
  · rw [a2d h2, F6]; simp only [if_pos h2]
  · have e : s.drop (k + 1) = [] := List.drop_eq_nil_of_le (by omega); rw [e, F6]; simp only [if_neg h2, F6]; by_cases h3 : s[k] = 92 <;> simp [h3]
def a1h (c : UInt8) (s : Str) : Int := if F6 c s < s.length then (F6 c s : Int) else -1
def NxI (c : UInt8) (s : Str) (k : Nat) : Prop := (k ≤ s.length → F6 c s = k + F6 c (s.drop k)) ∧ (s.length < k → F6 c s = s.length)
theorem NxI.zero (c : UInt8) (s : Str) : NxI c s 0 := ⟨fun _ => by simp, fun h => by omega⟩
theorem NxI.hit {c : UInt8} {s : Str} {k : Nat} (h : NxI c s k) (hk : k < s.length) (e : s[k] = c) : F6 c s = k := by
  rw [h.1 (by omega), a6A hk, if_pos e]; rfl
theorem NxI.one {c : UInt8} {s : Str} {k : Nat} (h : NxI c s k) (hk : k < s.length) (e : s[k] ≠ c) (e2 : s[k] ≠ 92) : NxI c s (k + 1) := by
  refine ⟨fun _ => ?_, fun h => by omega⟩; rw [h.1 (by omega), a6A hk, if_neg e, if_neg e2]; omega
theorem NxI.two {c : UInt8} {s : Str} {k : Nat} (h : NxI c s k) (hk : k < s.length) (e : s[k] ≠ c) (e2 : s[k] = 92) : NxI c s (k + 2) := by
  have h1 := h.1 (by omega); rw [a6A hk, if_neg e, if_pos e2] at h1; refine ⟨fun h2 => ?_, fun h2 => ?_⟩
  · rw [h1, if_pos (by omega)]; omega
  · rw [h1, if_neg (by omega)]; omega
theorem NxI.over {c : UInt8} {s : Str} {k : Nat} (h : NxI c s k) (hk : ¬ k < s.length) : F6 c s = s.length := by
  by_cases e : k = s.length
  · rw [h.1 (by omega), e]; simp [F6]
  · exact h.2 (by omega)
theorem b2M (s : Str) (c : UInt8) (hs : List.length s < 1000000) : Ctr prog 211 [.d (.str s), .d (u8 c)] (.d (.int .i64 (a1h c s))) := by
  refine fv (fun _ => false) func211 (by kernel_rfl) rfl rfl rfl rfl rfl ?_; simp -implicitDefEqProofs [u8]; refine H3 (List.length s + 1) (fun k τ => τ 0 = .d (.str s) ∧ τ 1 = .d (.int .u8 c.toNat) ∧ τ 5 = .d (.int .i64 k) ∧ NxI c s k) ⟨by simp, by simp, by simp, .zero c s⟩ ?_; rintro k τ hk ⟨h0, h1, h5, hI⟩; by_cases hlt : k < List.length s
  · by_cases h2 : s[k] = c
    · have h2' : (s[k].toNat : Int) = c.toNat := (c3e _ _).2 h2; have hn := hI.hit hlt h2; simp -implicitDefEqProofs [h0, h1, h5, hlt, h2']; rw [a1h, hn, if_pos hlt]
    · have h2' : ¬ (s[k].toNat : Int) = c.toNat := fun e => h2 ((c3e _ _).1 e)
      by_cases h3 : s[k] = 92
      · have h3' : (s[k].toNat : Int) = 92 := (W9 s[k] 92 (by omega)).2 h3; have h9 : ¬ (92 : Int) = c.toNat := by rw [← h3']; exact h2'
        simp -implicitDefEqProofs [h0, h1, h5, hlt, h2', h3', h9]; (repeat refine ai (by omega) ?_); exact c0d (k' := k + 2) (by omega) (by omega) ⟨by simp [h0], by simp [h1], by simp; omega, hI.two hlt h2 h3⟩
      · have h3' : ¬ (s[k].toNat : Int) = 92 := fun e => h3 ((W9 s[k] 92 (by omega)).1 e)
        simp -implicitDefEqProofs [h0, h1, h5, hlt, h2', h3']; (repeat refine ai (by omega) ?_); exact E5 (by omega) ⟨by simp [h0], by simp [h1], by simp, hI.one hlt h2 h3⟩
  · have hn := hI.over hlt; have hlt' : ¬ (k : Int) < (List.length s : Int) := (by omega); simp -implicitDefEqProofs [h0, h1, h5, hlt']; rw [a1h, hn, if_neg (by omega)]
def PcI (s : Str) (m : Nat) (τ : St) : Prop := ∃ (rest : Str) (out : List Str), m = List.length rest ∧ τ 0 = .d (.str rest) ∧ τ 3 = .own true 9 (out.map .str) ∧ List.length rest ≤ List.length s ∧ out.length + List.length rest ≤ List.length s ∧ P2 s = out ++ P2 rest
theorem b7t (s : Str) (hs : List.length s < 1000000) : Ctr prog 183 [.d (.str s)] (.own true 9 ((P2 s).map .str)) := by
  refine fv (fun i => decide (i < 1000000)) func183 (by kernel_rfl) rfl rfl rfl rfl rfl ?_; simp -implicitDefEqProofs; refine b0M (PcI s) (List.length s) ⟨s, [], rfl, by simp, by simp, by omega, by simp, by simp⟩ ?_; rintro m τ ⟨rest, out, rfl, h0, h3, hr, ho, hp⟩; simp -implicitDefEqProofs [h0, h3]; refine A1 (b2M rest 44 (by omega)) ?_; by_cases hlt : F6 44 rest < rest.length
  · have hx : a1h 44 rest = (F6 44 rest : Int) := by rw [a1h, if_pos hlt]
    have hp2 := a5A hlt; generalize hj : F6 44 rest = j at *; have i0 : ¬ (j : Int) < 0 := (by omega); have i1 : (0 : Int) ≤ (j : Int) + 1 := (by omega); have j1 : ((j : Int) + 1).toNat = j + 1 := (by omega); simp -implicitDefEqProofs [h0, h3, hx, i0, i1, j1]; (repeat refine ai (by omega) ?_); refine ⟨List.length (rest.drop (j + 1)), by simp; omega, rest.drop (j + 1), out ++ [rest.take j], rfl, ?_, by simp, by simp; omega, by simp; omega, by rw [hp, hp2]; simp⟩; simp; exact ttl (by simp)
  · have hx : a1h 44 rest = -1 := by rw [a1h, if_neg hlt]
    simp -implicitDefEqProofs [h0, h3, hx]; (repeat refine ai (by omega) ?_); rw [hp, a2M hlt]; simp
theorem a1U (s : Str) : (I5 s).length ≤ s.length := by
  have h1 : (X6 32 (R7 32 s)).length ≤ (R7 32 s).length := (List.dropWhile_sublist _).length_le; have h2 : (R7 32 s).length ≤ s.length := by
    rw [R7, List.length_reverse]; have := (List.dropWhile_sublist (l := s.reverse) fun x => decide (x = 32)).length_le; simpa using this
  rw [I5]; omega
theorem b5P (s : Str) : (X6 32 s).head? ≠ some 32 := by
  induction s with
  | nil => simp [X6]
  | cons x s ih =>
    rw [X6, List.dropWhile_cons]; by_cases hx : x = 32
    · rw [if_pos (by simp [hx])]; exact ih
    · rw [if_neg (by simp [hx])]; simpa using hx
theorem c4u (c : UInt8) : a0P c = 32 ↔ c = 32 := by
  constructor
  · intro h; by_cases h1 : 65 ≤ (c.toNat : Int) ∧ (c.toNat : Int) ≤ 90
    · have := a3F c h1.1 h1.2; rw [h] at this; have h3 : ((32 : UInt8).toNat : Int) = 32 := rfl; omega
    · rw [a0P, if_neg h1] at h; exact h
  · rintro rfl; decide
theorem c1L {s : Str} (h : (C8 (I5 s)).head? = some 32) : False := by
  have := b5P (R7 32 s); rw [← I5] at this; cases hq : I5 s with
  | nil => rw [hq] at h; simp [C8] at h
  | cons x t =>
    rw [hq] at h this; simp only [C8, List.map_cons, List.head?_cons, Option.some.injEq] at h; exact this (by simp [(c4u x).1 h])
theorem a9h : ∀ (a : Str) (p x : UInt8), sqz p (a ++ [x]) = sqz p a ++ (if x = 32 ∧ a.getLast?.getD p = 32 then [] else [x])
  | [], p, x => by by_cases h : x = 32 ∧ p = 32 <;> simp [sqz, h]
  | y :: a, p, x => by
    have ih1 := a9h a y x; have ih2 := a9h a p x; have hl : (y :: a).getLast?.getD p = a.getLast?.getD y := by rw [List.getLast?_cons]; rfl
    rw [hl]; simp only [List.cons_append, sqz]; by_cases h : y = 32 ∧ p = 32
    · obtain ⟨rfl, rfl⟩ := h; simp only [and_self, if_true]; exact ih1
    · rw [if_neg h, if_neg h, ih1]; rfl
theorem a8m : ∀ (a : Str) (p : UInt8), (sqz p a).length ≤ a.length
  | [], _ => by simp [sqz]
  | y :: a, p => by
    have h1 := a8m a p; have h2 := a8m a y; simp only [sqz]; split <;> simp <;> omega
theorem b2B (s : Str) : (W1 s).length ≤ s.length := by
  have h1 := a8m (C8 (I5 s)) 0; rw [S1] at h1; have := a1U s; rw [W1]; omega
theorem b5f {t : Str} {k : Nat} (h : k ≤ t.length) (h0 : 0 < k) (p : UInt8) : (t.take k).getLast?.getD p = t[k - 1]'(by omega) := by
  rw [List.getLast?_eq_getElem?, List.length_take, Nat.min_eq_left h, List.getElem?_take, if_pos (by omega), List.getElem?_eq_getElem (by omega)]; rfl
theorem a9e {t : Str} {k : Nat} (h : k < t.length) (hh : t.head? ≠ some 32) : sqz 0 (t.take (k + 1)) = sqz 0 (t.take k) ++ (if t[k] = 32 ∧ (∀ (h0 : 0 < k), t[k - 1] = 32) then [] else [t[k]]) := by
  rw [G9 h, a9h]; congr 1
  by_cases h0 : 0 < k
  · rw [b5f (by omega) h0]; by_cases h1 : t[k] = 32 ∧ t[k - 1] = 32
    · rw [if_pos h1, if_pos ⟨h1.1, fun _ => h1.2⟩]
    · rw [if_neg h1, if_neg fun e => h1 ⟨e.1, e.2 h0⟩]
  · obtain rfl : k = 0 := by omega
    have h2 : t[0] ≠ 32 := by
      intro e; apply hh
      cases t with
      | nil => simp at h
      | cons x t => simpa using e
    rw [if_neg (fun e => h2 e.1), if_neg (fun e => h2 e.1)]
theorem c0h {t : Str} {k : Nat} (h : k < t.length) (hh : t.head? ≠ some 32) (e : t[k] ≠ 32) : sqz 0 (t.take (k + 1)) = sqz 0 (t.take k) ++ [t[k]] := by
  rw [a9e h hh, if_neg fun q => e q.1]
theorem b9v {t : Str} {k : Nat} (h : k < t.length) (hh : t.head? ≠ some 32) (h0 : 0 < k) (e : t[k - 1] ≠ 32) : sqz 0 (t.take (k + 1)) = sqz 0 (t.take k) ++ [t[k]] := by
  rw [a9e h hh, if_neg fun q => e (q.2 h0)]
theorem c0l {t : Str} {k : Nat} (h : k < t.length) (hh : t.head? ≠ some 32) (e : t[k] = 32) (h0 : 0 < k) (e2 : t[k - 1] = 32) : sqz 0 (t.take (k + 1)) = sqz 0 (t.take k) := by
  rw [a9e h hh, if_pos ⟨e, fun _ => e2⟩, List.append_nil]
theorem c2S (s : Str) (hs : List.length s < 1000000) : Ctr prog 169 [.d (.str s)] (.d (.str (W1 s))) := by
  refine fv (fun _ => false) func169 (by kernel_rfl) rfl rfl rfl rfl rfl ?_; have ht := a1U s; have hl : List.length (C8 (I5 s)) < 1000000 := by rw [S1]; omega
  have hh : (C8 (I5 s)).head? ≠ some 32 := fun h => c1L h
  have hf : W1 s = sqz 0 (C8 (I5 s)) := rfl; have c2 := a2k (I5 s) (by omega); simp -implicitDefEqProofs; refine A1 (a8x s hs) ?_; simp -implicitDefEqProofs; refine A1 c2 ?_; clear c2; rw [hf]; generalize C8 (I5 s) = t at *; simp -implicitDefEqProofs; refine H3 t.length (fun k τ => τ 3 = .d (.str t) ∧ τ 10 = .d (.int .i64 t.length) ∧ τ 11 = .d (.int .i64 k) ∧ τ 4 = .own false 5 (D2 (sqz 0 (t.take k)))) ⟨by simp, by simp, by simp, by simp [sqz, D2]⟩ ?_; rintro k τ hk ⟨h3, h10, h11, h4⟩; by_cases hlt : k < List.length t
  · have hq := a8m (t.take k) 0; rw [List.length_take] at hq; by_cases e1 : t[k] = 32
    · have e1' : (t[k].toNat : Int) = 32 := (W9 _ 32 (by omega)).2 e1; have h0 : 0 < k := by
        rcases Nat.eq_zero_or_pos k with rfl | h
        · exfalso
          apply hh
          cases t with
          | nil => simp at hlt
          | cons x t => simpa using e1
        · exact h
      have i1 : (0 : Int) ≤ (k : Int) - 1 := (by omega); have j1 : ((k : Int) - 1).toNat = k - 1 := (by omega); have l1 : k - 1 < List.length t := (by omega); by_cases e2 : t[k - 1] = 32
      · have e2' : (t[k - 1].toNat : Int) = 32 := (W9 _ 32 (by omega)).2 e2; have hs3 := c0l hlt hh e1 h0 e2; simp -implicitDefEqProofs [h3, h10, h11, h4, hlt, e1', e2', i1, j1, l1]; (repeat refine ai (by omega) ?_); refine E5 hlt ⟨by simp [h3], by simp [h10], by simp, by simp [hs3, h4]⟩
      · have e2' : ¬ (t[k - 1].toNat : Int) = 32 := fun e => e2 ((W9 _ 32 (by omega)).1 e)
        have hs3 := b9v hlt hh h0 e2; simp -implicitDefEqProofs [h3, h10, h11, h4, hlt, e1', e2', i1, j1, l1]; (repeat refine And.intro (by first | omega | (simp [D2]; omega)) ?_); refine E5 hlt ⟨by simp [h3], by simp [h10], by simp, by simp [hs3, D2, e1']⟩
    · have e1' : ¬ (t[k].toNat : Int) = 32 := fun e => e1 ((W9 _ 32 (by omega)).1 e)
      have hs3 := c0h hlt hh e1; simp -implicitDefEqProofs [h3, h10, h11, h4, hlt, e1']; (repeat refine And.intro (by first | omega | (simp [D2]; omega)) ?_); refine E5 hlt ⟨by simp [h3], by simp [h10], by simp, by simp [hs3, D2]⟩
  · rw [ttl (by omega)] at h4; simp -implicitDefEqProofs [h3, h10, h11, h4, hlt]
theorem b8c {s : Str} {k : Nat} (h : k + 1 < s.length) (e : s[k] = 92) : O5 (s.drop k) = if V0 s[k + 1] = true then (O5 (s.drop (k + 2))).map (s[k + 1] :: ·) else none := by
  rw [a2d (show k < s.length by omega), a2d h, O5, if_pos e]
theorem b7B {s : Str} {k : Nat} (h : k < s.length) (h2 : ¬ k + 1 < s.length) (e : s[k] = 92) : O5 (s.drop k) = none := by
  rw [a2d h, List.drop_eq_nil_of_le (by omega), O5, if_pos e]
theorem b7L {s : Str} {k : Nat} (h : k < s.length) (e : s[k] ≠ 92) : O5 (s.drop k) = if V0 s[k] = true then none else (O5 (s.drop (k + 1))).map (s[k] :: ·) := by
  rw [a2d h]; by_cases h2 : k + 1 < s.length
  · rw [a2d h2, O5, if_neg e]
  · rw [List.drop_eq_nil_of_le (by omega)]; simp only [O5, if_neg e]; rfl
theorem a6C : ∀ (n : Nat) (s : Str), s.length ≤ n → ∀ v, O5 s = some v → v.length ≤ s.length
  | _, [], _, v, h => by simp only [O5, Option.some.injEq] at h; subst h; simp
  | 0, x :: s, hn, _, _ => by simp at hn
  | n + 1, [x], _, v, h => by
    simp only [O5] at h; split at h
    · cases h
    · split at h
      · cases h
      · simp only [Option.some.injEq] at h; subst h; simp
  | n + 1, x :: y :: r, hn, v, h => by
    simp only [List.length_cons] at hn; simp only [O5] at h; split at h
    · split at h
      · obtain ⟨w, hw, rfl⟩ := Option.map_eq_some_iff.1 h; have := a6C n r (by omega) w hw; simp only [List.length_cons]; omega
      · cases h
    · split at h
      · cases h
      · obtain ⟨w, hw, rfl⟩ := Option.map_eq_some_iff.1 h; have := a6C n (y :: r) (by simp only [List.length_cons]; omega) w hw; simp only [List.length_cons] at this ⊢; omega
def a4O (o : Option Str) : Str × Bool := match o with
  | some v => (v, true)
  | none => ([], false)
def VaI (f : Str → Option Str) (s : Str) (k : Nat) (out : Str) : Prop := f s = (f (s.drop k)).map (out ++ ·) ∧ out.length ≤ k
theorem VaI.zero {f : Str → Option Str} (s : Str) : VaI f s 0 [] := ⟨by simp, by simp⟩
theorem VaI.one {f : Str → Option Str} {s : Str} {k j : Nat} {out : Str} {x : UInt8} (h : VaI f s k out) (hj : k < j) (e : f (s.drop k) = (f (s.drop j)).map (x :: ·)) : VaI f s j (out ++ [x]) := by
  refine ⟨?_, ?_⟩
  · rw [h.1, e]; cases f (s.drop j) <;> simp
  · have := h.2; simp; omega
theorem VaI.none {f : Str → Option Str} {s : Str} {k : Nat} {out : Str} (h : VaI f s k out) (e : f (s.drop k) = Option.none) : f s = Option.none := by rw [h.1, e]; rfl
theorem VaI.all {f : Str → Option Str} {s : Str} {k : Nat} {out : Str} (h : VaI f s k out) (hk : ¬ k < s.length) (e : f [] = some []) : f s = some out := by
  rw [h.1, List.drop_eq_nil_of_le (by omega), e]; simp
theorem b8J (s : Str) (hs : List.length s < 1000000) : Ctr prog 212 [.d (.str s)] (.tup [.d (.str (a4O (O5 s)).1), .d (.bool (a4O (O5 s)).2)]) := by
  refine N1 (rv := .tmp 2) (rs := [.tmp 3]) (r := .d (.str (a4O (O5 s)).1)) (ys := [.d (.bool (a4O (O5 s)).2)]) (fun i => i == 1000004 || i == 5000038 || i == 5000039) (by kernel_rfl) func212 (by kernel_rfl) rfl rfl (by simp) (nbl rfl) (by kernel_rfl) rfl rfl ?_; simp -implicitDefEqProofs; refine b3t 1000000 1000001 5 (by simp) (by kernel_rfl) (by simp) (by simp) (fun b => ?_); simp -implicitDefEqProofs; refine H3 (List.length s) (fun k τ => τ 0 = .d (.str s) ∧ τ 5 = .d (.int .i64 k) ∧ τ 4 = .d (.raw (va b)) ∧ ∃ out, VaI O5 s k out ∧ a8k τ b out) ?_ ?_
  · exact ⟨by simp, by simp, by simp, [], .zero s, .nilp, .slice none 0 0, .inl rfl, by simp [b3n], by simp [D2]⟩
  rintro k τ hk ⟨h0, h5, h4, out, hI, p, hd, hp, hb, hh⟩; have hol := hI.2; by_cases hlt : k < List.length s
  · by_cases h2 : s[k] = 92
    · have h2' : (s[k].toNat : Int) = 92 := (W9 s[k] 92 (by omega)).2 h2; by_cases h3 : k + 1 < List.length s
      · have e := b8c h3 h2; have ne : ¬ (k : Int) + 1 = (List.length s : Int) := (by omega); have i1 : (0 : Int) ≤ (k : Int) + 1 := (by omega); have j1 : ((k : Int) + 1).toNat = k + 1 := (by omega); by_cases h6 : V0 s[k + 1] = true
        · rw [if_pos h6] at e; simp -implicitDefEqProofs [h0, h5, h4, hlt, h2', ne, h3, i1, j1]; (repeat refine ai (by omega) ?_); refine A1 (Z6 s[k + 1]) ?_; simp -implicitDefEqProofs [h0, h5, h4, hlt, h2', ne, h3, i1, j1, h6]; refine M2 [1000000, 1000001] 1000000 (I9 (s := out) (hd := hd) hp s[k + 1] (by omega)) (by simp [hb, hh]) rfl (by simp) ?_; rintro r hs' ⟨hd1, rfl⟩; simp -implicitDefEqProofs [h0, h5, h4, hlt, B8, C9]; (repeat refine ai (by omega) ?_); exact c0d (k' := k + 2) (by omega) (by omega) ⟨by simp [h0], by simp; omega, by simp [h4], out ++ [s[k + 1]], hI.one (by omega) e, .raw (va b), hd1, .inr rfl, by simp, by simp⟩
        · rw [if_neg h6] at e; have hn := hI.none e; simp -implicitDefEqProofs [h0, h5, h4, hlt, h2', ne, h3, i1, j1]; (repeat refine ai (by omega) ?_); refine A1 (Z6 s[k + 1]) ?_; simp -implicitDefEqProofs [h0, h5, h4, hlt, h2', ne, h3, i1, j1, h6, a4O, hn]
      · have hn := hI.none (b7B hlt h3 h2); have ne : (k : Int) + 1 = (List.length s : Int) := (by omega); simp -implicitDefEqProofs [h0, h5, h4, hlt, h2', ne, a4O, hn]; try omega
    · have h2' : ¬ (s[k].toNat : Int) = 92 := fun e => h2 ((W9 s[k] 92 (by omega)).1 e)
      have e := b7L hlt h2; simp -implicitDefEqProofs [h0, h5, h4, hlt, h2']; refine A1 (Z6 s[k]) ?_; by_cases h6 : V0 s[k] = true
      · rw [if_pos h6] at e; have hn := hI.none e; simp -implicitDefEqProofs [h0, h5, h4, hlt, h2', h6, a4O, hn]
      · rw [if_neg h6] at e; simp -implicitDefEqProofs [h0, h5, h4, hlt, h2', h6]; refine M2 [1000000, 1000001] 1000000 (I9 (s := out) (hd := hd) hp s[k] (by omega)) (by simp [hb, hh]) rfl (by simp) ?_; rintro r hs' ⟨hd1, rfl⟩; simp -implicitDefEqProofs [h0, h5, h4, hlt, B8, C9]; (repeat refine ai (by omega) ?_); exact E5 hlt ⟨by simp [h0], by simp, by simp [h4], out ++ [s[k]], hI.one (by omega) e, .raw (va b), hd1, .inr rfl, by simp, by simp⟩
  · have hv := hI.all hlt rfl; simp -implicitDefEqProofs [h0, h5, h4, hlt]; refine M2 [1000000, 1000001] 1000000 (a4J (s := out) (hd := hd) hp) (by simp [hb, hh]) rfl (by simp) ?_; rintro r hs' ⟨rfl, rfl⟩; simp -implicitDefEqProofs [h0, h5, h4, hlt, B8, C9, a4O, hv]
theorem b5w (s : Str) (hs : List.length s < 1000000) : Ctr prog 213 [.d (.str s)] (.d (.str (I5 s))) := by
  refine fv (fun _ => false) func213 (by kernel_rfl) rfl rfl rfl rfl rfl ?_; simp -implicitDefEqProofs; refine A1 (a8x s hs) ?_; simp -implicitDefEqProofs
theorem c2p (s : Str) (hs : List.length s < 1000000) : Ctr prog 184 [.d (.str s)] (.tup [.d (O0 (T6 s).1), .d (.int .i64 (T6 s).2)]) := by
  refine N1 (rv := .cell 2 121) (rs := [.tmp 3]) (r := .d (O0 (T6 s).1)) (ys := [.d (.int .i64 (T6 s).2)]) (fun _ => false) (by kernel_rfl) func184 (by kernel_rfl) rfl rfl (by simp) (nbl rfl) (by kernel_rfl) rfl rfl ?_; simp -implicitDefEqProofs; refine A1 (b2M s 61 hs) ?_; by_cases hlt : F6 61 s < s.length
  case neg =>
    have hx : a1h 61 s = -1 := by rw [a1h, if_neg hlt]
    simp -implicitDefEqProofs [hx]; simp [T6, hlt, O0]
  have hx : a1h 61 s = (F6 61 s : Int) := by rw [a1h, if_pos hlt]
  unfold T6; rw [if_pos hlt]; have b1 : List.length (s.drop (F6 61 s + 1)) < 1000000 := by simp; omega
  have b2 : List.length (s.take (F6 61 s)) < 1000000 := by simp; omega
  generalize hj : F6 61 s = j at *; have htk : List.take (List.length s - (j + 1)) (List.drop (j + 1) s) = List.drop (j + 1) s := ttl (by simp); have i0 : ¬ (j : Int) < 0 := (by omega); have i1 : (0 : Int) ≤ (j : Int) + 1 := (by omega); have j1 : ((j : Int) + 1).toNat = j + 1 := (by omega); have c1 := b5w (s.drop (j + 1)) b1; have c2 := a8x (s.take j) b2; have t1 := a1U (s.drop (j + 1)); have t2 := a1U (s.take j); have c3 := b8J (I5 (s.drop (j + 1))) (by omega); have c4 := a9p (I5 (s.take j)) (by omega); have hvl := a6C _ (I5 (s.drop (j + 1))) (Nat.le_refl _); simp -implicitDefEqProofs [hx, i0, i1, j1, htk]; (repeat refine ai (by omega) ?_); refine A1 c1 ?_; simp -implicitDefEqProofs; refine A1 c3 ?_; generalize I5 (s.drop (j + 1)) = T at *; cases hv : O5 T with
  | none =>
    simp -implicitDefEqProofs [a4O, hv]; (repeat refine ai (by omega) ?_); refine A1 c2 ?_; generalize I5 (s.take j) = K at *; simp -implicitDefEqProofs; simp [O0]
  | some v =>
    have hv2 := hvl v hv; have c5 := a7J v (by omega); rw [a6S] at c5; simp -implicitDefEqProofs [a4O, hv]; (repeat refine ai (by omega) ?_); refine A1 c2 ?_; generalize I5 (s.take j) = K at *; simp -implicitDefEqProofs; refine A1 c4 ?_; by_cases hn : S3 K = true
    · simp -implicitDefEqProofs [hn]; refine A1 c5 ?_; by_cases hc : R8 v = true
      · simp -implicitDefEqProofs [hc]; simp [O0]
      · simp -implicitDefEqProofs [hc]; simp [O0]
    · simp -implicitDefEqProofs [hn]; simp [O0]
theorem b3y : ∀ (n : Nat) (s : Str), s.length ≤ n → (P2 s).length ≤ s.length + 1 ∧ ∀ p ∈ P2 s, p.length ≤ s.length := by
  intro n
  induction n with
  | zero =>
    intro s hn; have : s = [] := List.length_eq_zero_iff.1 (by omega); subst this; rw [a2M (by simp)]; simp
  | succ n ih =>
    intro s hn; by_cases h : F6 44 s < s.length
    · rw [a5A h]; obtain ⟨h1, h2⟩ := ih (s.drop (F6 44 s + 1)) (by simp only [List.length_drop]; omega); simp only [List.length_drop] at h1 h2; refine ⟨by simp only [List.length_cons]; omega, fun p hp => ?_⟩; rcases List.mem_cons.1 hp with rfl | hp
      · simp only [List.length_take]; omega
      · have := h2 p hp; omega
    · rw [a2M h]; simp
theorem b5X {out : List F7} {ps : List Str} {k : Nat} (h : k < ps.length) : P6 out (ps.drop k) = if (T6 ps[k]).2 = 0 then P6 (out ++ [(T6 ps[k]).1]) (ps.drop (k + 1)) else ([], (T6 ps[k]).2) := by
  rw [a2d h]; rfl
theorem b2j (s : Str) (hs : List.length s < 900000) : Ctr prog 132 [.d (.str s)] (.tup [.d (J8 (E0 s).1), .d (.int .i64 (E0 s).2)]) := by
  refine N1 (rv := .tmp 2) (rs := [.tmp 3]) (r := .d (J8 (E0 s).1)) (ys := [.d (.int .i64 (E0 s).2)]) (fun _ => false) (by kernel_rfl) func132 (by kernel_rfl) rfl rfl (by simp) (nbl rfl) (by kernel_rfl) rfl rfl ?_; by_cases hnil : s = []
  · simp -implicitDefEqProofs [hnil, E0, J8]
  have hP : E0 s = P6 [] (P2 s) := by rw [E0, if_neg hnil]
  have c1 := b7t s (by omega); obtain ⟨b1, b2⟩ := b3y _ s (Nat.le_refl _); rw [hP]; generalize P2 s = ps at *; obtain ⟨R, hR⟩ : ∃ R, P6 [] ps = R := ⟨_, rfl⟩; rw [hR]; simp -implicitDefEqProofs [hnil]; refine A1 c1 ?_; simp -implicitDefEqProofs; refine H3 ps.length (fun k τ => τ 12 = .own false 9 (ps.map .str) ∧ τ 13 = .d (.int .i64 ps.length) ∧ τ 14 = .d (.int .i64 k) ∧ ∃ out : List F7, out.length = k ∧ τ 4 = .own false 121 (out.map O0) ∧ P6 out (ps.drop k) = R) ?_ ?_
  · exact ⟨by simp, by simp, by simp, [], rfl, by simp, by simpa using hR⟩
  rintro k τ hk ⟨h12, h13, h14, out, ho, h4, hI⟩; by_cases hlt : k < ps.length
  · have hlt' : (k : Int) < ps.length := (by omega); rw [b5X hlt] at hI; have hb := b2 _ (gmm hlt); have c2 := c2p ps[k] (by omega); simp -implicitDefEqProofs [h12, h13, h14, h4, hlt, hlt']; refine A1 c2 ?_; generalize T6 ps[k] = C at *; obtain ⟨⟨n, v⟩, e⟩ := C; by_cases he : e = 0
    · rw [if_pos he] at hI; simp -implicitDefEqProofs [h12, h13, h14, h4, hlt, hlt', he, O0]; (repeat refine ai (by omega) ?_); exact E5 hlt ⟨by simp [h12], by simp [h13], by simp, out ++ [(n, v)], by simp [ho], by simp [O0], hI⟩
    · rw [if_neg he] at hI; subst hI; simp -implicitDefEqProofs [h12, h13, h14, h4, hlt, hlt', he, O0]; simp [J8]
  · have hlt' : ¬ (k : Int) < ps.length := (by omega); rw [List.drop_eq_nil_of_le (by omega), P6] at hI; by_cases h8 : 8 < out.length
    · rw [if_pos h8] at hI; subst hI; have h8' : (8 : Int) < out.length := (by omega); simp -implicitDefEqProofs [h12, h13, h14, h4, hlt, hlt', h8', J8]; try omega
    · rw [if_neg h8] at hI; subst hI; have h8' : ¬ (8 : Int) < out.length := (by omega); simp -implicitDefEqProofs [h12, h13, h14, h4, hlt, hlt', h8', J8]; try omega
end Go.Proofs.Tz