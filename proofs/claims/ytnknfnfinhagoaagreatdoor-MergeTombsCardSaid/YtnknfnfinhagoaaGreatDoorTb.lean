/-
  What the functions that the statements about merged states reach compute, part 2 of 5, for data of bounded size (each theorem states its bound).
-/import Derived.Test.YtnknfnfinhagoaaGreatDoorTa
open Go.Proofs.Tryz
set_option linter.unusedSimpArgs false
set_option linter.unusedVariables false
set_option maxRecDepth 100000
set_option maxHeartbeats 4000000
namespace Go.Proofs.Tz
open Go.Vw Go.RowKit Go.Proofs
theorem a4R (c : Csn) : Ctr prog 36 [.d (B6 c)] (.d (.str (H8 c))) := by
  refine fv (fun _ => false) func36 (by kernel_rfl) rfl rfl rfl rfl rfl ?_; have c0 := a7K c; obtain ⟨t, s, r⟩ := c; unfold H8; by_cases hv : T7 (t, s, r) = true
  · have hv' := b0Y.1 hv; simp only at hv'; rw [hv] at c0; rw [if_pos hv]; obtain ⟨t', rfl⟩ := Int.eq_ofNat_of_zero_le hv'.1; obtain ⟨s', rfl⟩ := Int.eq_ofNat_of_zero_le hv'.2.2.1; obtain ⟨r', rfl⟩ := Int.eq_ofNat_of_zero_le hv'.2.2.2.2.1; have c1 := b5p t' 11 (by omega) (by omega); have c2 := b5p s' 8 (by omega) (by omega); have c3 := b5p r' 1 (by omega) (by omega); have l1 := a1v 11 t'; have l2 := a1v 8 s'; have l3 := a1v 1 r'; simp only [Int.ofNat_eq_natCast, Int.toNat_natCast]; generalize Q4 t' 11 = A at *; generalize Q4 s' 8 = B at *; generalize Q4 r' 1 = C at *; simp only [B6] at c0; simp -implicitDefEqProofs [B6]; refine A3 c0 ?_; simp -implicitDefEqProofs; refine E0 c1 ?_; simp -implicitDefEqProofs; (repeat refine ai (by omega) ?_); refine E0 c2 ?_; simp -implicitDefEqProofs; (repeat refine ai (by omega) ?_); refine E0 c3 ?_; simp -implicitDefEqProofs; repeat refine ai (by omega) ?_
    first | done | omega
  · have hv' : T7 (t, s, r) = false := (by simpa using hv); rw [hv'] at c0; rw [if_neg hv]; simp only [B6] at c0; simp -implicitDefEqProofs [B6]; refine A3 c0 ?_; simp -implicitDefEqProofs
theorem b5V (s : Str) (hs : List.length s < 1000000) : Ctr prog 53 [.d (.str s)] (.tup [.d (B6 (N8 s).1), .d (.int .i64 (N8 s).2)]) := by
  refine N7 (rv := .cell 2 32) (rs := [.tmp 3]) (r := .d (B6 (N8 s).1)) (ys := [.d (.int .i64 (N8 s).2)]) (fun i => i == 9000003) (by kernel_rfl) func53 (by kernel_rfl) rfl rfl (by simp) (nbl rfl) (by kernel_rfl) rfl rfl ?_; obtain ⟨R, hR⟩ : ∃ R, N8 s = R := ⟨_, rfl⟩; rw [hR]; unfold N8 at hR; by_cases hl : s.length = 22
  case neg =>
    have hl' : ¬ (s.length : Int) = 22 := (by omega); rw [if_pos (.inl hl)] at hR; subst hR; simp -implicitDefEqProofs [hl', B6]
  have g11 := List.getElem?_eq_getElem (show 11 < s.length by omega); have g20 := List.getElem?_eq_getElem (show 20 < s.length by omega); generalize hx11 : s[11]'(by omega) = x11 at *; generalize hx20 : s[20]'(by omega) = x20 at *; by_cases h1 : x11 = 45
  case neg =>
    have h1' : ¬ (x11.toNat : Int) = 45 := fun e => h1 (UInt8.toNat_inj.1 (show x11.toNat = (45 : UInt8).toNat by simp; omega))
    rw [if_pos (.inr (.inl (by rw [g11]; simpa using h1)))] at hR; subst hR; simp -implicitDefEqProofs [hl, hx11, h1', B6]
  by_cases h2 : x20 = 45
  case neg =>
    have h2' : ¬ (x20.toNat : Int) = 45 := fun e => h2 (UInt8.toNat_inj.1 (show x20.toNat = (45 : UInt8).toNat by simp; omega))
    rw [if_pos (.inr (.inr (by rw [g20]; simpa using h2)))] at hR; subst hR; simp -implicitDefEqProofs [hl, hx11, hx20, h1, h2', B6]
  subst h1 h2; rw [if_neg (by rw [g11, g20]; simp [hl])] at hR; have c1 := a8m (s.take 11) (by simp; omega); have c2 := a8m ((s.take 20).drop 12) (by simp; omega); have c3 := a8m (s.drop 21) (by simp; omega); have c4 := a7K (a2X s); obtain ⟨a, ha⟩ : ∃ a, a2X s = a := ⟨_, rfl⟩; have ha' := ha; unfold a2X at ha'; rw [ha] at hR c4; obtain ⟨p, q, r⟩ := a; simp only [Prod.mk.injEq] at ha'; obtain ⟨e1, e2, e3⟩ := ha'; rw [e1] at c1; rw [e2] at c2; rw [e3] at c3; rw [List.drop_take] at c2; rw [show s.drop 21 = (s.drop 21).take 1 from (ttl (by simp; omega)).symm] at c3; simp only at hR; simp only [B6] at c4; by_cases hp : p < 0
  · rw [if_pos (.inl hp)] at hR; subst hR; simp -implicitDefEqProofs [hl, hx11, hx20, B6]; refine E0 c1 ?_; simp -implicitDefEqProofs [hl]; refine E0 c2 ?_; simp -implicitDefEqProofs [hl]; refine E0 c3 ?_; simp -implicitDefEqProofs [hp]
  by_cases hq : q < 0
  · rw [if_pos (.inr (.inl hq))] at hR; subst hR; simp -implicitDefEqProofs [hl, hx11, hx20, B6]; refine E0 c1 ?_; simp -implicitDefEqProofs [hl]; refine E0 c2 ?_; simp -implicitDefEqProofs [hl]; refine E0 c3 ?_; simp -implicitDefEqProofs [hp, hq]
  by_cases hr : r < 0
  · rw [if_pos (.inr (.inr hr))] at hR; subst hR; simp -implicitDefEqProofs [hl, hx11, hx20, B6]; refine E0 c1 ?_; simp -implicitDefEqProofs [hl]; refine E0 c2 ?_; simp -implicitDefEqProofs [hl]; refine E0 c3 ?_; simp -implicitDefEqProofs [hp, hq, hr]
  rw [if_neg (by omega)] at hR; by_cases hv : T7 (p, q, r) = true
  · rw [if_neg (by rw [hv]; simp)] at hR; subst hR; rw [hv] at c4; simp -implicitDefEqProofs [hl, hx11, hx20, B6]; refine E0 c1 ?_; simp -implicitDefEqProofs [hl]; refine E0 c2 ?_; simp -implicitDefEqProofs [hl]; refine E0 c3 ?_; simp -implicitDefEqProofs [hp, hq, hr]; refine A3 c4 ?_; simp -implicitDefEqProofs
  · have hv' : T7 (p, q, r) = false := (by simpa using hv); rw [if_pos hv'] at hR; subst hR; rw [hv'] at c4; simp -implicitDefEqProofs [hl, hx11, hx20, B6]; refine E0 c1 ?_; simp -implicitDefEqProofs [hl]; refine E0 c2 ?_; simp -implicitDefEqProofs [hl]; refine E0 c3 ?_; simp -implicitDefEqProofs [hp, hq, hr]; refine A3 c4 ?_; simp -implicitDefEqProofs
end Go.Proofs.Tz
namespace Go.Proofs.Tz
open Go.Vw
theorem c5c (l m : List Str) (hl : l.length < 1000000) (hm : m.length < 1000000) : Ctr prog 111 [.d (C6 l), .d (C6 m)] (.d (.bool (decide (l = m)))) := by
  refine fv (fun _ => false) func111 (by kernel_rfl) rfl rfl rfl rfl rfl ?_; by_cases hlm : l.length = m.length
  · simp -implicitDefEqProofs [C6, hlm]; refine H3 m.length (fun k τ => τ 0 = .d (C6 l) ∧ τ 1 = .d (C6 m) ∧ τ 5 = .d (.int .i64 k) ∧ l.take k = m.take k) (by simp [C6]) ?_; rintro k τ hk ⟨h0, h1, h5, ht⟩; by_cases hlt : k < m.length
    · have hlt' : k < l.length := (by omega); by_cases he : l[k] = m[k]
      · simp -implicitDefEqProofs [h0, h1, h5, C6, hlm, hlt, hlt', he]; refine ⟨by omega, E8 hlt ⟨by simp [h0, C6], by simp [h1, C6], by simp, ?_⟩⟩; rw [G5 hlt, G5 hlt', ht, he]
      · simp -implicitDefEqProofs [h0, h1, h5, C6, hlm, hlt, hlt', he]; rintro rfl; exact he rfl
    · simp -implicitDefEqProofs [h0, h1, h5, C6, hlm, hlt]; rw [ttl (by omega), ttl (by omega)] at ht
      first | exact ⟨by omega, ht⟩ | exact ht
  · have hlm' : ¬ (l.length : Int) = m.length := (by omega); simp -implicitDefEqProofs [C6, hlm']; rintro rfl; exact hlm rfl
def O6 (s : Str) (r : Bool × List Str) (x : Str) : Bool × List Str :=
  (r.1 || !Op.bytesLess x s, r.2 ++ (if r.1 = false ∧ Op.bytesLess x s = false then [s] else []) ++ (if x = s then [] else [x]))
def a2w (s : Str) (l : List Str) : Bool × List Str := l.foldl (O6 s) (false, [])
def ins (l : List Str) (s : Str) : List Str := (a2w s l).2 ++ (if (a2w s l).1 then [] else [s])
theorem c0W {s : Str} {l : List Str} {k : Nat} (h : k < l.length) : a2w s (l.take (k + 1)) = O6 s (a2w s (l.take k)) l[k] := by
  rw [G5 h]; simp only [a2w, List.foldl_append, List.foldl_cons, List.foldl_nil]
theorem b5B (s : Str) : ∀ (l : List Str) (r : Bool × List Str), (l.foldl (O6 s) r).2.length ≤ r.2.length + 2 * l.length
  | [], r => by simp
  | x :: l, r => by
    have := b5B s l (O6 s r x); simp only [List.foldl_cons, List.length_cons]; have h2 : (O6 s r x).2.length ≤ r.2.length + 2 := by
      simp only [O6, List.length_append]; split <;> split <;> simp <;> omega
    all_goals omega
theorem c0y (s : Str) (l : List Str) : (a2w s l).2.length ≤ 2 * l.length := by simpa [a2w] using b5B s l (false, [])
theorem c0C (l : List Str) (s : Str) (hl : l.length < 1000000) : Ctr prog 112 [.d (C6 l), .d (.str s)] (.own true 9 ((ins l s).map .str)) := by
  refine fv (fun i => decide (i < 1000000)) func112 (by kernel_rfl) rfl rfl rfl rfl rfl ?_; simp -implicitDefEqProofs; refine H3 l.length (fun k τ => τ 0 = .d (C6 l) ∧ τ 1 = .d (.str s) ∧ τ 6 = .d (.bool (a2w s (l.take k)).1) ∧ τ 5 = .own true 9 ((a2w s (l.take k)).2.map .str) ∧ τ 7 = .d (.int .i64 k)) (by simp [a2w]) ?_; rintro k τ hk ⟨h0, h1, h6, h5, h7⟩; have hlen := c0y s (l.take k); rw [List.length_take, Nat.min_eq_left hk] at hlen; have ht := fun h => c0W (s := s) (l := l) (k := k) h
  generalize hr : a2w s (l.take k) = r at *; obtain ⟨d, out⟩ := r; simp only at hlen h6 h5; by_cases hlt : k < l.length
  · have ht := ht hlt; cases d with
    | true =>
      by_cases he : l[k] = s
      · simp -implicitDefEqProofs [h0, h1, h6, h5, h7, C6, hlt, he]; refine ⟨by omega, E8 hlt ⟨by simp [h0, C6], by simp [h1], ?_, ?_, by simp⟩⟩
        · rw [ht]; simp [h6, O6]
        · rw [ht]; simp [h5, O6, he]
      · simp -implicitDefEqProofs [h0, h1, h6, h5, h7, C6, hlt, he]; refine ⟨by omega, by omega, by omega, E8 hlt ⟨by simp [h0, C6], by simp [h1], ?_, ?_, by simp⟩⟩
        · rw [ht]; simp [h6, O6]
        · rw [ht]; simp [h5, O6, he]
    | false =>
      by_cases hb : Op.bytesLess l[k] s = true
      · by_cases he : l[k] = s
        · have hb' : Op.bytesLess s s = true := by rw [he] at hb; exact hb
          simp -implicitDefEqProofs [h0, h1, h6, h5, h7, C6, hlt, he, hb']; refine ⟨by omega, E8 hlt ⟨by simp [h0, C6], by simp [h1], ?_, ?_, by simp⟩⟩
          · rw [ht]; simp [h6, O6, he, hb']
          · rw [ht]; simp [h5, O6, he, hb']
        · simp -implicitDefEqProofs [h0, h1, h6, h5, h7, C6, hlt, he, hb]; refine ⟨by omega, by omega, by omega, E8 hlt ⟨by simp [h0, C6], by simp [h1], ?_, ?_, by simp⟩⟩
          · rw [ht]; simp [h6, O6, he, hb]
          · rw [ht]; simp [h5, O6, he, hb]
      · by_cases he : l[k] = s
        · have hb' : Op.bytesLess s s = false := by rw [he] at hb; simpa using hb
          simp -implicitDefEqProofs [h0, h1, h6, h5, h7, C6, hlt, he, hb']; refine ⟨by omega, by omega, by omega, E8 hlt ⟨by simp [h0, C6], by simp [h1], ?_, ?_, by simp⟩⟩
          · rw [ht]; simp [h6, O6, he, hb']
          · rw [ht]; simp [h5, O6, he, hb']
        · simp -implicitDefEqProofs [h0, h1, h6, h5, h7, C6, hlt, he, hb]; refine ⟨by omega, by omega, by omega, by omega, by omega, E8 hlt ⟨by simp [h0, C6], by simp [h1], ?_, ?_, by simp⟩⟩
          · rw [ht]; simp [h6, O6, he, hb]
          · rw [ht]; simp [h5, O6, he, hb]
  · rw [ttl (by omega)] at hr; cases d with
    | true =>
      simp -implicitDefEqProofs [h0, h1, h6, h5, h7, C6, hlt, ins, hr]
      all_goals omega
    | false =>
      simp -implicitDefEqProofs [h0, h1, h6, h5, h7, C6, hlt, ins, hr]
      all_goals omega
abbrev Att := Str × List Str
def att (a : Att) : D := .agg [.str a.1, C6 a.2]
def H4 (l : List Att) : D := .sl (l.map att)
def b1H (l : List Att) : Prop := l.length < 1000000 ∧ ∀ a ∈ l, List.length a.1 < 1000000 ∧ a.2.length < 1000000
theorem c1p (l m : List Att) (hl : b1H l) (hm : b1H m) : Ctr prog 60 [.d (H4 l), .d (H4 m)] (.d (.bool (decide (l = m)))) := by
  refine fv (fun _ => false) func60 (by kernel_rfl) rfl rfl rfl rfl rfl ?_; have hl1 := hl.1; have hm1 := hm.1; by_cases hlm : l.length = m.length
  · simp -implicitDefEqProofs [H4, hlm]; refine H3 m.length (fun k τ => τ 0 = .d (H4 l) ∧ τ 1 = .d (H4 m) ∧ τ 5 = .d (.int .i64 k) ∧ l.take k = m.take k) (by simp [H4]) ?_; rintro k τ hk ⟨h0, h1, h5, ht⟩; by_cases hlt : k < m.length
    · have hlt' : k < l.length := (by omega); by_cases he : l[k].1 = m[k].1
      · simp -implicitDefEqProofs [h0, h1, h5, H4, att, C6, hlm, hlt, hlt', he]; refine E0 (c5c _ _ (hl.2 _ (gmm hlt')).2 (hm.2 _ (gmm hlt)).2) ?_; by_cases he2 : l[k].2 = m[k].2
        · simp -implicitDefEqProofs [h0, h1, h5, H4, att, C6, hlm, hlt, hlt', he, he2]; refine ⟨by omega, E8 hlt ⟨by simp [h0, H4, att, C6], by simp [h1, H4, att, C6], by simp, ?_⟩⟩; rw [G5 hlt, G5 hlt', ht, Prod.ext he he2]
        · simp -implicitDefEqProofs [h0, h1, h5, H4, att, C6, hlm, hlt, hlt', he, he2]; rintro rfl; exact he2 rfl
      · simp -implicitDefEqProofs [h0, h1, h5, H4, att, C6, hlm, hlt, hlt', he]; rintro rfl; exact he rfl
    · simp -implicitDefEqProofs [h0, h1, h5, H4, hlm, hlt]; rw [ttl (by omega), ttl (by omega)] at ht
      first | exact ⟨by omega, ht⟩ | exact ht
  · have hlm' : ¬ (l.length : Int) = m.length := (by omega); simp -implicitDefEqProofs [H4, hlm']; rintro rfl; exact hlm rfl
theorem b2M (s : Str) : ∀ (l : List Str) (r : Bool × List Str) (c : Nat), r.2.length ≤ c + r.1.toNat → (l.foldl (O6 s) r).2.length ≤ c + l.length + (l.foldl (O6 s) r).1.toNat
  | [], _, _, h => h
  | x :: l, (d, out), c, h => by
    have h2 : (O6 s (d, out) x).2.length ≤ (c + 1) + (O6 s (d, out) x).1.toNat := by
      simp only at h; cases d <;> by_cases hb : Op.bytesLess x s = true <;> by_cases he : x = s <;> simp [O6, hb, he] at h ⊢ <;> first
        | omega
        | (split <;> simp <;> omega)
    have := b2M s l (O6 s (d, out) x) (c + 1) h2; simp only [List.foldl_cons, List.length_cons]; omega
theorem b7f (l : List Str) (s : Str) : (ins l s).length ≤ l.length + 1 := by
  have : (a2w s l).2.length ≤ 0 + l.length + (a2w s l).1.toNat := b2M s l (false, []) 0 (by simp); simp only [ins, List.length_append]; cases h : (a2w s l).1 <;> simp [h] at this ⊢ <;> omega
def Y5 (ns : List Str) (a : Att) : List Str := if a.2 = [] then ns else ins ns (D7 a.1)
def W7 (l : List Att) : List Str := l.foldl Y5 []
def a0N (n : Str) (vs : List Str) (a : Att) : List Str := if D7 a.1 = n then a.2.foldl ins vs else vs
def a0o (l : List Att) (n : Str) : List Str := l.foldl (a0N n) []
def G0 (l : List Att) : List Att := (W7 l).map fun n => (n, a0o l n)
theorem a9t {l : List Att} {k : Nat} (h : k < l.length) : W7 (l.take (k + 1)) = Y5 (W7 (l.take k)) l[k] := by
  rw [G5 h]; simp only [W7, List.foldl_append, List.foldl_cons, List.foldl_nil]
theorem b8u {l : List Att} {n : Str} {k : Nat} (h : k < l.length) : a0o (l.take (k + 1)) n = a0N n (a0o (l.take k) n) l[k] := by
  rw [G5 h]; simp only [a0o, List.foldl_append, List.foldl_cons, List.foldl_nil]
theorem a4X : ∀ (l : List Att) (ns : List Str), (l.foldl Y5 ns).length ≤ ns.length + l.length
  | [], ns => by simp
  | a :: l, ns => by
    have := a4X l (Y5 ns a); have h2 : (Y5 ns a).length ≤ ns.length + 1 := by
      unfold Y5; split
      · omega
      · exact b7f _ _
    simp only [List.foldl_cons, List.length_cons]; omega
theorem a6R : ∀ (l ns : List Str), (l.foldl ins ns).length ≤ ns.length + l.length
  | [], ns => by simp
  | a :: l, ns => by
    have := a6R l (ins ns a); have := b7f ns a; simp only [List.foldl_cons, List.length_cons]; omega
def I2 (l : List Att) : Nat := (l.map (·.2.length)).sum
theorem b4O (n : Str) : ∀ (l : List Att) (vs : List Str), (l.foldl (a0N n) vs).length ≤ vs.length + I2 l
  | [], vs => by simp [I2]
  | a :: l, vs => by
    have := b4O n l (a0N n vs a); have h2 : (a0N n vs a).length ≤ vs.length + a.2.length := by
      unfold a0N; split
      · exact a6R _ _
      · omega
    simp only [List.foldl_cons, I2, List.map_cons, List.sum_cons] at this ⊢
    all_goals omega
def a5j (l : List Att) : Prop := b1H l ∧ I2 l < 500000
theorem b0L (l : List Att) (k : Nat) (h : k < l.length) : I2 (l.take k) + l[k].2.length ≤ I2 l := by
  have e : I2 l = I2 (l.take k) + (l[k].2.length + I2 (l.drop (k + 1))) := by
    conv => lhs; rw [← List.take_append_drop k l, List.drop_eq_getElem_cons h]
    simp only [I2, List.map_append, List.map_cons, List.sum_append, List.sum_cons]
  all_goals omega
def a3f (l : List Att) (ns : List Str) (i : Nat) : List D := ((ns.take i).map fun n => (n, a0o l n)).map att
theorem c0g (l : List Att) (ns : List Str) : a3f l ns 0 = [] := rfl
theorem c1c (l : List Att) {ns : List Str} {i : Nat} (h : i < ns.length) : a3f l ns (i + 1) = a3f l ns i ++ [.agg [.str ns[i], C6 (a0o l ns[i])]] := by
  rw [a3f, G5 h]; simp only [List.map_append, List.map_cons, List.map_nil]; rfl
theorem c2C (l : List Att) {ns : List Str} {i : Nat} (h : i ≤ ns.length) : (a3f l ns i).length = i := by simp [a3f, Nat.min_eq_left h]
theorem c2A (l : List Att) (i : Nat) (h : (W7 l).length ≤ i) : a3f l (W7 l) i = (G0 l).map att := by rw [a3f, ttl h]; rfl
theorem b8e (l : List Att) (ns : List Str) (i : Nat) : ∀ u ∈ a3f l ns i, B0 u = 2 := by
  intro u hu; simp only [a3f, List.map_map, List.mem_map] at hu; obtain ⟨n, _, rfl⟩ := hu; rfl
theorem b0u (l : List Att) (hl : a5j l) : Ctr prog 61 [.d (H4 l)] (.own true 72 ((G0 l).map att)) := by
  refine fv (fun i => i == 5) func61 (by kernel_rfl) rfl rfl rfl rfl rfl ?_; obtain ⟨⟨hl1, hl2⟩, hl3⟩ := hl; simp -implicitDefEqProofs; refine H3 l.length (fun k τ => τ 0 = .d (H4 l) ∧ τ 4 = .d (.int .i64 k) ∧ τ 3 = .own false 9 ((W7 (l.take k)).map .str)) (by simp [W7]) ?_; rintro k τ hk ⟨h0, h4, h3⟩; by_cases hlt : k < l.length
  · have hn := a4X (l.take k) []; rw [List.length_take] at hn; by_cases he : l[k].2 = []
    · simp -implicitDefEqProofs [h0, h4, h3, hlt, H4, att, C6, he]; refine ⟨by omega, E8 hlt ⟨by simp [h0, H4, att, C6], by simp, ?_⟩⟩; rw [a9t hlt]; simp [h3, Y5, he]
    · have he' : 0 < l[k].2.length := List.length_pos_iff.2 he; simp -implicitDefEqProofs [h0, h4, h3, hlt, H4, att, C6, he']; refine A3 (a6Y _ (hl2 _ (gmm hlt)).1) ?_; simp -implicitDefEqProofs [h0, h4, h3, hlt, H4, att, C6, he']; have hf := c0C (W7 (l.take k)) (D7 l[k].1) (by simp only [List.length_nil] at hn; unfold W7; omega); simp only [C6] at hf; refine A3 hf ?_; simp -implicitDefEqProofs [h0, h4, h3, hlt, H4, att, C6, he']; refine ⟨by omega, E8 hlt ⟨by simp [h0, H4, att, C6], by simp, ?_⟩⟩; rw [a9t hlt]; simp [Y5, he]
  · simp -implicitDefEqProofs [h0, h4, h3, hlt, H4]; rw [ttl (by omega)] at h3; have hn := a4X l []; generalize hN : W7 l = ns at *; rw [show List.foldl Y5 [] l = W7 l from rfl, hN] at hn; simp only [List.length_nil, Nat.zero_add] at hn; refine H3 ns.length (fun i τ => τ 0 = .d (H4 l) ∧ τ 3 = .own false 9 (ns.map .str) ∧ τ 6 = .d (.int .i64 i) ∧ τ 5 = .own true 72 (a3f l ns i)) (by simp [h0, h3, hN, H4, c0g]) ?_; clear h0 h3 h4 τ; rintro i τ hi ⟨h0, h3, h6, h5⟩; by_cases hlt2 : i < ns.length
    · simp -implicitDefEqProofs [h0, h3, h5, h6, hlt2, H4, att, C6]; refine H3 l.length (fun k τ => τ 0 = .d (H4 l) ∧ τ 3 = .own false 9 (ns.map .str) ∧ τ 6 = .d (.int .i64 i) ∧ τ 5 = .own true 72 (a3f l ns i) ∧ τ 8 = .d (.int .i64 k) ∧ τ 7 = .box (.agg [.str ns[i], C6 (a0o (l.take k) ns[i])])) (by simp [h0, h3, h5, h6, hN, H4, att, C6, a0o]) ?_; clear h0 h3 h6 h5 τ hk hlt k; rintro k τ hk ⟨h0, h3, h6, h5, h8, h7⟩; by_cases hlt : k < l.length
      · have hv := b4O ns[i] (l.take k) []; have ht := b0L l k hlt; rw [show (l.take k).foldl (a0N ns[i]) [] = a0o (l.take k) ns[i] from rfl] at hv; have hst := b8u (n := ns[i]) hlt; generalize a0o (l.take k) ns[i] = vs at *; simp -implicitDefEqProofs [h0, h3, h5, h6, h7, h8, hlt, hlt2, H4, att, C6]; refine H3 l[k].2.length (fun j τ => τ 0 = .d (H4 l) ∧ τ 3 = .own false 9 (ns.map .str) ∧ τ 6 = .d (.int .i64 i) ∧ τ 5 = .own true 72 (a3f l ns i) ∧ τ 8 = .d (.int .i64 k) ∧ τ 9 = .d (.int .i64 j) ∧ τ 7 = .box (.agg [.str ns[i], C6 (if D7 l[k].1 = ns[i] then (l[k].2.take j).foldl ins vs else vs)])) (by simp [h0, h3, h5, h6, h7, h8, H4, att, C6]) ?_; clear h0 h3 h6 h5 h8 h7 τ; rintro j τ hj ⟨h0, h3, h6, h5, h8, h9, h7⟩; have hal := (hl2 _ (gmm hlt)); by_cases hn : D7 l[k].1 = ns[i]
        · rw [if_pos hn] at h7; by_cases hlt3 : j < l[k].2.length
          · simp -implicitDefEqProofs [h0, h3, h5, h6, h7, h8, h9, hlt, hlt2, hlt3, H4, att, C6]; refine E0 (a6Y _ hal.1) ?_; simp -implicitDefEqProofs [h0, h3, h5, h6, h7, h8, h9, hlt, hlt2, hlt3, H4, att, C6, hn]; have hal2 := a6R (l[k].2.take j) vs; have hf := c0C ((l[k].2.take j).foldl ins vs) l[k].2[j] (by simp only [List.length_take, List.length_nil] at hal2 hv; omega); simp only [C6] at hf; refine E0 hf ?_; simp -implicitDefEqProofs [h0, h3, h5, h6, h7, h8, h9, hlt, hlt2, hlt3, H4, att, C6, hn]; refine ⟨by omega, E8 hlt3 ⟨by simp [h0, H4, att, C6], by simp [h3], by simp [h6], by simp [h5], by simp [h8], by simp, ?_⟩⟩; rw [G5 hlt3, List.foldl_append]; simp -implicitDefEqProofs [C6]
          · simp -implicitDefEqProofs [h0, h3, h5, h6, h7, h8, h9, hlt, hlt2, hlt3, H4, att, C6]; refine E0 (a6Y _ hal.1) ?_; simp -implicitDefEqProofs [h0, h3, h5, h6, h7, h8, h9, hlt, hlt2, hlt3, H4, att, C6, hn]; refine ⟨by omega, E8 hlt ⟨by simp [h0, H4, att, C6], by simp [h3], by simp [h6], by simp [h5], by simp, ?_⟩⟩; rw [hst, a0N, if_pos hn]; rw [ttl (by omega)] at h7; simp -implicitDefEqProofs [h7, C6]
        · rw [if_neg hn] at h7; simp -implicitDefEqProofs [h0, h3, h5, h6, h7, h8, h9, hlt, hlt2, H4, att, C6]; refine E0 (a6Y _ hal.1) ?_; simp (config := { maxSteps := 1000000 }) [h0, h3, h5, h6, h7, h8, h9, hlt, hlt2, H4, att, C6, hn]; refine ⟨by omega, E8 hlt ⟨by simp [h0, H4, att, C6], by simp [h3], by simp [h6], by simp [h5], by simp, ?_⟩⟩; rw [hst, a0N, if_neg hn]; simp -implicitDefEqProofs [h7, C6]
      · have hw := b8e l ns i; rw [ttl (by omega)] at h7; simp -implicitDefEqProofs [h0, h3, h5, h6, h7, h8, hlt, hlt2, H4, att, C6]; rw [c2C l hi]; refine ⟨by omega, by omega, by omega, E8 hlt2 ⟨by simp [h0, H4, att, C6], by simp [h3], by simp, ?_⟩⟩; simp -implicitDefEqProofs [c1c l hlt2, C6]
    · simp -implicitDefEqProofs [h0, h3, h5, h6, hlt2, H4, att, C6]; rw [← hN]; exact c2A l i (by rw [hN]; omega)
theorem b5h (c : UInt8) : Ctr prog 109 [.d (u8 c)] (.d (.bool (decide (65 ≤ (c.toNat : Int)) && decide ((c.toNat : Int) ≤ 90)))) := by
  refine fv (fun _ => false) func109 (by kernel_rfl) rfl rfl rfl rfl rfl ?_; by_cases h1 : 65 ≤ (c.toNat : Int) <;> simp [u8, h1]
theorem b1i (c : UInt8) : Ctr prog 107 [.d (u8 c)] (.d (.bool (a3c c))) := by
  refine fv (fun _ => false) func107 (by kernel_rfl) rfl rfl rfl rfl rfl ?_; simp -implicitDefEqProofs; refine A3 (b5h c) ?_; by_cases h1 : 97 ≤ (c.toNat : Int) <;> by_cases h2 : (c.toNat : Int) ≤ 122 <;> by_cases h3 : 65 ≤ (c.toNat : Int) <;> by_cases h4 : (c.toNat : Int) ≤ 90 <;> simp -implicitDefEqProofs [u8, a3c, h1, h2, h3, h4]
theorem c1k (c : UInt8) : Ctr prog 108 [.d (u8 c)] (.d (.bool (a8Y c))) := by
  refine fv (fun _ => false) func108 (by kernel_rfl) rfl rfl rfl rfl rfl ?_; by_cases h1 : 48 ≤ (c.toNat : Int) <;> simp [u8, a8Y, h1]
theorem b7l (c : UInt8) : Ctr prog 106 [.d (u8 c)] (.d (.bool (a1B c))) := by
  refine fv (fun _ => false) func106 (by kernel_rfl) rfl rfl rfl rfl rfl ?_; simp -implicitDefEqProofs [u8]; refine A3 (b1i c) ?_; by_cases h1 : a3c c = true
  · simp -implicitDefEqProofs [h1, a1B]
  · simp -implicitDefEqProofs [h1]; refine A3 (c1k c) ?_; by_cases h2 : a8Y c = true <;> by_cases h3 : (c.toNat : Int) = 45 <;> simp [h1, h2, h3, a1B]
theorem b8I (l : List Att) : (G0 l).length ≤ l.length := by
  have := a4X l []; simp only [List.length_nil, Nat.zero_add] at this; simpa [G0, W7] using this
theorem c4T (s : Str) (hs : List.length s < 1000000) : Ctr prog 105 [.d (.str s), .d (.clo 106 [])] (.d (.bool (s.all a1B && decide (s ≠ []) && decide (s.length ≤ 64)))) := by
  refine fv (fun _ => false) func105 (by kernel_rfl) rfl rfl rfl rfl rfl ?_; simp -implicitDefEqProofs; refine H3 (List.length s) (fun k τ => τ 0 = .d (.str s) ∧ τ 1 = .d (.clo 106 []) ∧ τ 7 = .d (.int .i64 (List.length s)) ∧ τ 8 = .d (.int .i64 k) ∧ ∀ x ∈ s.take k, a1B x = true) (by simp) ?_; rintro k τ hk ⟨h0, h1, h7, h8, ha⟩; by_cases hlt : k < List.length s
  · simp -implicitDefEqProofs [h0, h1, h7, h8, hlt]; refine A3 (b7l s[k]) ?_; by_cases e1 : a1B s[k] = true
    · simp -implicitDefEqProofs [h0, h1, h7, h8, hlt, e1]; exact ⟨by omega, E8 hlt ⟨by simp [h0], by simp [h1], by simp [h7], by simp, b5r hlt ha e1⟩⟩
    · simp -implicitDefEqProofs [h0, h1, h7, h8, hlt, e1]; intro h; exact absurd (h _ (gmm hlt)) e1
  · rw [ttl (by omega)] at ha; have hall : List.all s a1B = true := (by simpa using ha); by_cases e2 : s = []
    · simp -implicitDefEqProofs [h0, h1, h7, h8, hlt, e2]
    · simp -implicitDefEqProofs [h0, h1, h7, h8, hlt, e2, hall]
      all_goals omega
theorem a9G (s : Str) (hs : List.length s < 1000000) : Ctr prog 55 [.d (.str s)] (.d (.bool (T5 s))) := by
  refine fv (fun _ => false) func55 (by kernel_rfl) rfl rfl rfl rfl rfl ?_; simp -implicitDefEqProofs; refine A3 (c4T s hs) ?_; by_cases e : (s.all a1B && decide (s ≠ []) && decide (s.length ≤ 64)) = true
  · have e0 := e; simp only [Bool.and_eq_true, decide_eq_true_eq] at e; obtain ⟨⟨e1, e2⟩, e3⟩ := e; obtain ⟨c, t, rfl⟩ := List.exists_cons_of_ne_nil e2; simp only [e0]; simp -implicitDefEqProofs; refine A3 (b1i c) ?_; have e4 : (List.length (c :: t)) ≤ 64 := e3; simp -implicitDefEqProofs [T5, e1, e4]; intro _; simpa using e4
  · rw [Bool.not_eq_true] at e; simp only [e]; simp -implicitDefEqProofs [T5]; intro h1 h2 _; have hne : s ≠ [] := by
      rintro rfl; simp at h1
    simpa [hne, h2] using e
def fil (n : Str) (s : List Att) : List Att := s.filter fun a => !decide (a.1 = n)
def b4V (l : List Att) (name : Str) : List Att := fil (D7 name) (G0 l)
def a6l (l : List Att) (name : Str) (v : List Str) : List Att × Int :=
  if 32 < (G0 (b4V l name ++ [(name, v)])).length ∨ 16 < v.length then ([], 3) else (G0 (b4V l name ++ [(name, v)]), 0)
def a2u {α : Type} (p : α → Bool) : Nat → List α → Int
  | _, [] => -1
  | k, x :: l => if p x = true then k else a2u p (k + 1) l
theorem b9S {α : Type} {p : α → Bool} {l : List α} {k : Nat} (h : k < l.length) : a2u p k (l.drop k) = if p l[k] = true then (k : Int) else a2u p (k + 1) (l.drop (k + 1)) := by
  rw [List.drop_eq_getElem_cons h, a2u]
end Go.Proofs.Tz
namespace Go.Proofs.Tz
open Go.Vw Go.RowKit Go.Proofs
def b2l {α : Type} (p : α → Bool) (l : List α) (k : Nat) : Bool := (l.take k).any p
end Go.Proofs.Tz
namespace Go.Proofs.Tz
open Go.Vw
theorem c3g {c : UInt8} (h : ¬ (65 ≤ (c.toNat : Int) ∧ (c.toNat : Int) ≤ 90)) : a1p c = c := if_neg h
def a2c (s : Str) (k : Nat) : List D := ((D7 (s.take k)) ++ s.drop k).map u8
theorem c0i (s : Str) (k : Nat) (h : k ≤ List.length s) : (a2c s k).length = List.length s := by simp [a2c, D7]; omega
theorem c0B (s : Str) (k : Nat) (h : k < List.length s) : (a2c s k)[k]? = some (u8 s[k]) := by
  have hl : (D7 (s.take k)).length = k := by simp [D7]; omega
  simp only [a2c, List.getElem?_map]; rw [List.getElem?_append_right (by omega), hl, Nat.sub_self]; simp [h]
theorem c0f (s : Str) (k : Nat) (h : k < List.length s) : (a2c s k).set k (u8 (a1p s[k])) = a2c s (k + 1) := by
  have hl : (D7 (s.take k)).length = k := by simp [D7]; omega
  simp only [a2c, ← List.map_set]; rw [List.set_append_right _ _ (by omega), hl, Nat.sub_self, List.drop_eq_getElem_cons h, List.set_cons_zero, G5 h]; simp only [D7, List.map_append, List.map_cons, List.map_nil, List.append_assoc, List.singleton_append]
theorem a2n (s : Str) (hs : List.length s < 1000000) : Ctr prog 56 [.d (.str s)] (.d (.str (D7 s))) := by
  refine fv (fun i => decide (i < 1000000)) func56 (by kernel_rfl) rfl rfl rfl rfl rfl ?_; simp -implicitDefEqProofs; refine ⟨by omega, ?_⟩; refine H3 (List.length s) (fun k τ => τ 9 = .d (.int .i64 k) ∧ τ 8 = .d (.int .i64 (List.length s)) ∧ τ 3 = .own true 100005 (a2c s k)) (by simp [a2c, D7, D5, u8]) ?_; rintro k τ hk ⟨h9, h8, h3⟩; have hlen := c0i s k hk; by_cases hlt : k < List.length s
  · have hg := c0B s k hlt; have hset := c0f s k hlt; generalize a2c s k = M at *; have hlt2 : k < M.length := (by omega); have hg2 : M[k] = u8 s[k] := (List.getElem?_eq_some_iff.1 hg).2; simp -implicitDefEqProofs [h9, h8, h3, hlt, hlt2, hg2, u8]; refine A3 (b5h _) ?_; by_cases h1 : 65 ≤ (s[k].toNat : Int) ∧ (s[k].toNat : Int) ≤ 90
    · simp -implicitDefEqProofs [h9, h8, h3, hlt, hlt2, hg2, u8, h1.1, h1.2]; have e : u8 (a1p s[k]) = .int .u8 ((s[k].toNat : Int) + 32) := by
        simp only [u8, a3W _ h1.1 h1.2]; congr 1; omega
      rw [e] at hset; exact ⟨by omega, by omega, E8 hlt ⟨by simp, by simp [h8], by simp [hset]⟩⟩
    · have hb : (decide (65 ≤ (s[k].toNat : Int)) && decide ((s[k].toNat : Int) ≤ 90)) = false := (by simpa using h1); simp -implicitDefEqProofs [h9, h8, h3, hlt, hlt2, hg2, u8, hb]; rw [c3g h1, ← hg2, List.set_getElem_self] at hset; exact ⟨by omega, E8 hlt ⟨by simp, by simp [h8], by simp [h3, hset]⟩⟩
  · simp -implicitDefEqProofs [h9, h8, h3, hlt]; have e : a2c s k = D5 (D7 s) := by
      have : k = List.length s := (by omega); subst this; simp [a2c, D5, u8]
    simp -implicitDefEqProofs [e, h3]
theorem c5I {x c : UInt8} (h : ¬ x = c) : ¬ ((x.toNat : Int) = c.toNat) := fun e => h (UInt8.toNat_inj.1 (by omega))
def Y1 (c : UInt8) (s : Str) : Str := s.dropWhile fun x => decide (x = c)
def S0 (c : UInt8) (s : Str) : Str := (s.reverse.dropWhile fun x => decide (x = c)).reverse
theorem c1O (s : Str) (c : UInt8) : Ctr prog 191 [.d (.str s), .d (u8 c)] (.d (.str (Y1 c s))) := by
  refine fv (fun _ => false) func191 (by kernel_rfl) rfl rfl rfl rfl rfl ?_; simp -implicitDefEqProofs [u8]; refine b1A (fun n τ => ∃ t : Str, n = t.length ∧ τ 0 = .d (.str t) ∧ τ 1 = .d (.int .u8 c.toNat) ∧ Y1 c t = Y1 c s) s.length ⟨s, rfl, by simp, by simp, rfl⟩ ?_; rintro n τ ⟨t, rfl, h0, h1, ht⟩; cases t with
  | nil =>
    simp -implicitDefEqProofs [h0, h1]; rw [← ht]; rfl
  | cons x t =>
    by_cases hx : x = c
    · subst hx; simp -implicitDefEqProofs [h0, h1]; exact ⟨_, by omega, t, rfl, rfl, by rw [← ht, Y1, Y1, List.dropWhile_cons, if_pos (by simp)]⟩
    · have := c5I hx; simp -implicitDefEqProofs [h0, h1, this]; rw [← ht, Y1, List.dropWhile_cons, if_neg (by simp [hx])]
theorem a3r {c : UInt8} {t : Str} (h : 0 < List.length t) : S0 c t = if t[List.length t - 1] = c then S0 c (t.take (List.length t - 1)) else t := by
  have e : t = t.take (List.length t - 1) ++ [t[List.length t - 1]] := by
    have := G5 (l := t) (k := List.length t - 1) (by omega); rw [show List.length t - 1 + 1 = List.length t by omega, List.take_length] at this; exact this
  conv => lhs; rw [e]
  rw [S0, List.reverse_append, List.reverse_singleton, List.singleton_append, List.dropWhile_cons]; by_cases hx : t[List.length t - 1] = c
  · rw [if_pos (by simpa using hx), if_pos hx, S0]
  · rw [if_neg (by simpa using hx), if_neg hx, List.reverse_cons, List.reverse_reverse]; exact e.symm
theorem c2r (s : Str) (c : UInt8) (hs : List.length s < 1000000) : Ctr prog 192 [.d (.str s), .d (u8 c)] (.d (.str (S0 c s))) := by
  refine fv (fun _ => false) func192 (by kernel_rfl) rfl rfl rfl rfl rfl ?_; simp -implicitDefEqProofs [u8]; refine b1A (fun n τ => ∃ t : Str, n = t.length ∧ τ 0 = .d (.str t) ∧ τ 1 = .d (.int .u8 c.toNat) ∧ List.length t < 1000000 ∧ S0 c t = S0 c s) s.length ⟨s, rfl, by simp, by simp, hs, rfl⟩ ?_; rintro n τ ⟨t, rfl, h0, h1, hl, ht⟩; by_cases hpos : 0 < List.length t
  · have hi : 0 ≤ (List.length t : Int) - 1 := (by omega); have hi2 : ((List.length t : Int) - 1).toNat = List.length t - 1 := (by omega); have hi3 : List.length t - 1 < List.length t := (by omega); have hi4 : -9223372036854775808 ≤ (List.length t : Int) - 1 := (by omega); have hi5 : (List.length t : Int) - 1 ≤ 9223372036854775807 := (by omega); have hi6 : 1 ≤ (List.length t : Int) := (by omega); have hz : ¬ t = [] := fun e => by subst e; simp at hpos
    rw [a3r hpos] at ht; by_cases hx : t[List.length t - 1] = c
    · rw [if_pos hx] at ht; simp -implicitDefEqProofs [h0, h1, hpos, hi, hi2, hi3, hi4, hi5, hi6, hx, hz]; exact ⟨List.length t - 1, by omega, t.take (List.length t - 1), by rw [List.length_take]; omega, rfl, by rw [List.length_take]; omega, ht⟩
    · have := c5I hx; rw [if_neg hx] at ht; simp -implicitDefEqProofs [h0, h1, hpos, hi, hi2, hi3, hi4, hi5, hi6, this, hz]; exact ht
  · obtain rfl : t = [] := List.eq_nil_of_length_eq_zero (by omega); simp -implicitDefEqProofs [h0, h1]; rw [← ht]; rfl
def I7 (s : Str) : Str := Y1 32 (S0 32 s)
theorem b7P (s : Str) (hs : List.length s < 1000000) : Ctr prog 149 [.d (.str s), .d (.str [32])] (.d (.str (I7 s))) := by
  refine fv (fun _ => false) func149 (by kernel_rfl) rfl rfl rfl rfl rfl ?_; by_cases hz : s = []
  · subst hz; simp -implicitDefEqProofs; try rfl
  simp -implicitDefEqProofs [hz]; have h1 : Ctr prog 192 [.d (.str s), .d (.int .u8 32)] (.d (.str (S0 32 s))) := c2r s 32 hs; have h2 : Ctr prog 191 [.d (.str (S0 32 s)), .d (.int .u8 32)] (.d (.str (I7 s))) := c1O (S0 32 s) 32; refine E0 h1 ?_; simp -implicitDefEqProofs [hz]; refine E0 h2 ?_; simp -implicitDefEqProofs [hz]
theorem a8X (s : Str) (hs : List.length s < 1000000) : Ctr prog 110 [.d (.str s)] (.d (.str (I7 s))) := by
  refine fv (fun _ => false) func110 (by kernel_rfl) rfl rfl rfl rfl rfl ?_; simp -implicitDefEqProofs; refine A3 (b7P s hs) ?_; simp -implicitDefEqProofs
def a2q (s : Str) : Bool := s.all a1s && decide (s ≠ []) && decide (List.length s ≤ 256) && decide (I7 s = s)
theorem c6f {s : Str} {k : Nat} (h : k < List.length s) (hc : s[k].toNat < 128) : Go.Utf8.decode ⟨s.toArray⟩ k = (s[k].toNat, 1) := by
  have hb : k < (⟨s.toArray⟩ : ByteArray).size := (by simpa [ByteArray.size] using h); have e : (⟨s.toArray⟩ : ByteArray)[k]'hb = s[k] := rfl; have := decode_ascii ⟨s.toArray⟩ k hb (by rw [e]; exact hc); rw [e] at this; exact this
theorem c5A {s : Str} {k : Nat} (h : k < List.length s) (hc : 128 ≤ s[k].toNat) : 128 ≤ (Go.Utf8.decode ⟨s.toArray⟩ k).1 := by
  have hb : k < (⟨s.toArray⟩ : ByteArray).size := (by simpa [ByteArray.size] using h); have e : (⟨s.toArray⟩ : ByteArray)[k]'hb = s[k] := rfl; exact (decode_high ⟨s.toArray⟩ k hb (by rw [e]; exact hc)).1
theorem b0T (c : UInt8) (s : Str) : List.length (Y1 c s) ≤ List.length s := (List.dropWhile_sublist _).length_le
theorem b1s (c : UInt8) (s : Str) : List.length (S0 c s) ≤ List.length s := by
  have := (List.dropWhile_sublist (fun x : UInt8 => decide (x = c)) (l := s.reverse)).length_le; simpa [S0] using this
theorem b9q {s : Str} (h : 0 < List.length s) : I7 s = s ↔ s[0] ≠ 32 ∧ s[List.length s - 1] ≠ 32 := by
  constructor
  · intro e; have h1 := b0T 32 (S0 32 s); have h2 := b1s 32 s; have h3 : List.length (I7 s) = List.length s := by rw [e]
    rw [I7] at h3; have hr : s[List.length s - 1] ≠ 32 := by
      intro h4; rw [a3r h, if_pos h4] at h3 h1; have h5 := b1s 32 (s.take (List.length s - 1)); rw [List.length_take] at h5; omega
    refine ⟨fun h4 => ?_, hr⟩; rw [I7, a3r h, if_neg hr] at e; cases s with
    | nil => simp at h
    | cons x t =>
      simp only [List.getElem_cons_zero] at h4; rw [Y1, List.dropWhile_cons, if_pos (by simp [h4])] at e; have := b0T 32 t; rw [Y1, e, List.length_cons] at this; omega
  · rintro ⟨h1, h2⟩; rw [I7, a3r h, if_neg h2]; cases s with
    | nil => rfl
    | cons x t => rw [Y1, List.dropWhile_cons, if_neg (by simpa using h1)]
theorem a8a (s : Str) : a2q s = S4 s := by
  by_cases h : 0 < List.length s
  · have hne : s ≠ [] := fun e => by subst e; simp at h
    have hh : s.head? = some s[0] := (by simp [List.head?_eq_getElem?, h]); have hl : s.getLast? = some s[List.length s - 1] := by rw [List.getLast?_eq_getElem?, List.getElem?_eq_getElem (by omega)]
    rw [Bool.eq_iff_iff]; simp only [a2q, S4, Bool.and_eq_true, decide_eq_true_eq, b9q h, hh, hl, bne_iff_ne, ne_eq, Option.some.injEq]; have : 1 ≤ List.length s := h; constructor
    · rintro ⟨⟨⟨a, b⟩, c⟩, d, e⟩; exact ⟨⟨⟨⟨this, c⟩, d⟩, e⟩, a⟩
    · rintro ⟨⟨⟨⟨_, c⟩, d⟩, e⟩, a⟩; exact ⟨⟨⟨a, hne⟩, c⟩, d, e⟩
  · obtain rfl : s = [] := List.eq_nil_of_length_eq_zero (by omega); rfl
theorem a8l (s : Str) (hs : List.length s < 1000000) : Ctr prog 57 [.d (.str s)] (.d (.bool (a2q s))) := by
  refine fv (fun _ => false) func57 (by kernel_rfl) rfl rfl rfl rfl rfl ?_; simp -implicitDefEqProofs; refine H3 (List.length s) (fun k τ => τ 0 = .d (.str s) ∧ τ 6 = .iter s k ∧ ∀ x ∈ s.take k, a1s x = true) (by simp) ?_; rintro k τ hk ⟨h0, h6, hall⟩; by_cases hlt : k < List.length s
  · by_cases ha : s[k].toNat < 128
    · have hd := c6f hlt ha; by_cases e1 : (s[k].toNat : Int) < 32
      · have e1' : ¬ 32 ≤ (s[k].toNat : Int) := (by omega); simp -implicitDefEqProofs [h0, h6, hlt, hd, e1]; simp [a2q, b2m hlt (show a1s s[k] = false by simp [a1s, e1'])]
      · by_cases e2 : 126 < (s[k].toNat : Int)
        · have e2' : ¬ (s[k].toNat : Int) ≤ 126 := (by omega); simp -implicitDefEqProofs [h0, h6, hlt, hd, e1, e2]; simp [a2q, b2m hlt (show a1s s[k] = false by simp [a1s, e2'])]
        · have e1' : 32 ≤ (s[k].toNat : Int) := (by omega); have e2' : (s[k].toNat : Int) ≤ 126 := (by omega); simp -implicitDefEqProofs [h0, h6, hlt, hd, e1, e2]; exact E8 hlt ⟨by simp [h0], by simp, b5r hlt hall (by simp [a1s, e1', e2'])⟩
    · have hd := c5A hlt (by omega); have e1 : ¬ ((Go.Utf8.decode ⟨s.toArray⟩ k).1 : Int) < 32 := (by omega); have e2 : 126 < ((Go.Utf8.decode ⟨s.toArray⟩ k).1 : Int) := (by omega); have e2' : ¬ (s[k].toNat : Int) ≤ 126 := (by omega); simp -implicitDefEqProofs [h0, h6, hlt, e1, e2]; simp [a2q, b2m hlt (show a1s s[k] = false by simp [a1s, e2'])]
  · rw [ttl (by omega)] at hall; have hall' : s.all a1s = true := List.all_eq_true.2 hall; by_cases hz : s = []
    · subst hz; simp -implicitDefEqProofs [h0, h6, a2q]
    · by_cases h2 : (List.length s : Int) ≤ 256
      · have h2' : List.length s ≤ 256 := (by omega); simp -implicitDefEqProofs [h0, h6, hlt, hz, h2]; refine A3 (a8X s hs) ?_; simp -implicitDefEqProofs [h0, h6, hlt, hz, h2, a2q, hall', h2']
      · have h2' : ¬ List.length s ≤ 256 := (by omega); simp -implicitDefEqProofs [h0, h6, hlt, hz, h2, a2q, h2']
end Go.Proofs.Tz
namespace Go.Proofs.Tz
open Go.Vw Go.RowKit Go.Proofs
def V9 (c : UInt8) : Bool := decide (c = 44) || decide (c = 61) || decide (c = 43) || decide (c = 92)
def F8 (c : UInt8) : Str → Nat
  | [] => 0
  | [x] => if x = c then 0 else 1
  | x :: y :: r => if x = c then 0 else if x = 92 then 2 + F8 c r else 1 + F8 c (y :: r)
def a1z : Nat → Str → List Str
  | 0, s => [s]
  | n + 1, s => if F8 44 s < s.length then s.take (F8 44 s) :: a1z n (s.drop (F8 44 s + 1)) else [s]
def P7 (s : Str) : List Str := a1z s.length s
theorem b0A : ∀ (n m : Nat) (s : Str), s.length ≤ n → s.length ≤ m → a1z n s = a1z m s
  | 0, 0, _, _, _ => rfl
  | 0, m + 1, s, h, _ => by
    have : s = [] := List.length_eq_zero_iff.1 (by omega); subst this; simp [a1z]
  | n + 1, 0, s, _, h => by
    have : s = [] := List.length_eq_zero_iff.1 (by omega); subst this; simp [a1z]
  | n + 1, m + 1, s, h1, h2 => by
    simp only [a1z]; split
    · rw [b0A n m _ (by simp only [List.length_drop]; omega) (by simp only [List.length_drop]; omega)]
    · rfl
theorem a6S {s : Str} (h : F8 44 s < s.length) : P7 s = s.take (F8 44 s) :: P7 (s.drop (F8 44 s + 1)) := by
  obtain ⟨n, hn⟩ : ∃ n, s.length = n + 1 := ⟨s.length - 1, by omega⟩; rw [P7, hn, a1z, if_pos h, P7, b0A n _ _ (by simp only [List.length_drop]; omega) (Nat.le_refl _)]
theorem a3m {s : Str} (h : ¬ F8 44 s < s.length) : P7 s = [s] := by
  rw [P7]; cases s.length with
  | zero => rfl
  | succ n => rw [a1z, if_neg h]
def P1 : Str → Option Str
  | [] => some []
  | [x] => if x = 92 then none else if V9 x = true then none else some [x]
  | x :: y :: r => if x = 92 then (if V9 y = true then (P1 r).map (y :: ·) else none) else if V9 x = true then none else (P1 (y :: r)).map (x :: ·)
def NoU (c : UInt8) : Str → Prop
  | [] => True
  | [x] => x ≠ c
  | x :: y :: r => x ≠ c ∧ if x = 92 then NoU c r else NoU c (y :: r)
theorem NoU.take {c : UInt8} : ∀ {s : Str} (n : Nat), NoU c s → NoU c (s.take n)
  | [], n, h => by simpa using h
  | [x], 0, h => by simp [NoU]
  | [x], n + 1, h => by simpa using h
  | x :: y :: r, 0, h => by simp [NoU]
  | x :: y :: r, 1, h => by simp only [NoU] at h; simp [NoU, h.1]
  | x :: y :: r, n + 2, h => by
    simp only [NoU] at h; have e : List.take (n + 2) (x :: y :: r) = x :: y :: List.take n r := rfl; rw [e]; refine ⟨h.1, ?_⟩; by_cases h1 : x = 92
    · rw [if_pos h1] at h ⊢; exact NoU.take n h.2
    · rw [if_neg h1] at h ⊢; exact NoU.take (n + 1) h.2
theorem NoU.before {c : UInt8} : ∀ {s : Str}, NoU c (s.take (F8 c s))
  | [] => by simp [NoU]
  | [x] => by
    simp only [F8]; split
    · simp [NoU]
    · rename_i h; simpa [NoU] using h
  | x :: y :: r => by
    simp only [F8]; by_cases h1 : x = c
    · simp [h1, NoU]
    · rw [if_neg h1]; by_cases h2 : x = 92
      · rw [if_pos h2]; have e : 2 + F8 c r = F8 c r + 2 := (by omega); rw [e]; refine ⟨h1, ?_⟩; rw [if_pos h2]; exact NoU.before
      · rw [if_neg h2]; have ih := NoU.before (c := c) (s := y :: r); have e : 1 + F8 c (y :: r) = F8 c (y :: r) + 1 := (by omega); rw [e, List.take_succ_cons]; generalize List.take (F8 c (y :: r)) (y :: r) = t at *; cases t with
        | nil => exact h1
        | cons z t => exact ⟨h1, by rw [if_neg h2]; exact ih⟩
abbrev F9 := Str × Str
def O9 (p : F9) : D := .agg [.str p.1, .str p.2]
def K3 (l : List F9) : D := .sl (l.map O9)
def U5 (s : Str) : F9 × Int :=
  if F8 61 s < s.length then
    (match P1 (I7 (s.drop (F8 61 s + 1))) with
     | none => (([], []), 4)
     | some v => if T5 (I7 (s.take (F8 61 s))) = false then (([], []), 5) else if S4 v = false then (([], []), 8) else ((I7 (s.take (F8 61 s)), v), 0))
  else (([], []), 4)
def Q5 (out : List F9) : List Str → List F9 × Int
  | [] => if 8 < out.length then ([], 3) else (out, 0)
  | p :: ps => if (U5 p).2 = 0 then Q5 (out ++ [(U5 p).1]) ps else ([], (U5 p).2)
def E5 (s : Str) : List F9 × Int := if s = [] then ([], 0) else Q5 [] (P7 s)
def sqz (prev : UInt8) : Str → Str
  | [] => []
  | x :: r => if x = 32 ∧ prev = 32 then sqz x r else x :: sqz x r
def X2 (s : Str) : Str := sqz 0 (D7 (I7 s))
def R6 (s : Str) : Str := s.flatMap fun c => if V9 c = true then [92, c] else [c]
def V6 (p : F9) : Str := D7 p.1 ++ 61 :: R6 (X2 p.2)
def U6 (p : F9) : Int := if T5 p.1 = false then 5 else if S4 p.2 = false then 8 else 0
def a0w : List F9 → Int
  | [] => 0
  | p :: l => if U6 p = 0 then a0w l else U6 p
def a0b (l : List F9) : Int := if a0w l = 0 then (if 8 < l.length then 3 else 0) else a0w l
def H9 (l : List F9) : Str × Int := if a0b l = 0 then (D6 44 (l.map V6), 0) else ([], a0b l)
def M0 (s : Str) : Option (List F9) := if (E5 s).2 = 0 ∧ H9 (E5 s).1 = (s, 0) then some (E5 s).1 else none
def K7 (s : Str) : Bool := (M0 s).isSome
def CU : Str → Prop
  | [] => True
  | [x] => x ≠ 92 ∧ x ≠ 44
  | x :: y :: r => x ≠ 44 ∧ if x = 92 then CU r else CU (y :: r)
theorem CU.next : ∀ {p : Str}, CU p → ∀ (r : Str), F8 44 (p ++ 44 :: r) = p.length
  | [], _, r => by cases r <;> simp [F8]
  | [x], h, r => by
    simp only [CU] at h; have i := CU.next (p := []) trivial r; simp only [List.nil_append] at i; simp [F8, h.1, h.2, i]
  | x :: y :: t, h, r => by
    simp only [CU] at h; by_cases h2 : x = 92
    · rw [if_pos h2] at h; have i := CU.next h.2 r; simp only [List.cons_append, F8, if_neg h.1, if_pos h2, i, List.length_cons]; omega
    · rw [if_neg h2] at h; have i := CU.next h.2 r; simp only [List.cons_append] at i; simp only [List.cons_append, F8, if_neg h.1, if_neg h2, i, List.length_cons]; omega
theorem CU.all : ∀ {p : Str}, CU p → F8 44 p = p.length
  | [], _ => by simp [F8]
  | [x], h => by simp only [CU] at h; simp [F8, h.2]
  | x :: y :: t, h => by
    simp only [CU] at h; by_cases h2 : x = 92
    · rw [if_pos h2] at h; have i := CU.all h.2; simp only [F8, if_neg h.1, if_pos h2, i, List.length_cons]; omega
    · rw [if_neg h2] at h; have i := CU.all h.2; simp only [F8, if_neg h.1, if_neg h2, i, List.length_cons]; omega
theorem CU.cons {x : UInt8} {s : Str} (h1 : x ≠ 92) (h2 : x ≠ 44) (h : CU s) : CU (x :: s) := by
  cases s with
  | nil => exact ⟨h1, h2⟩
  | cons y r => exact ⟨h2, by rw [if_neg h1]; exact h⟩
theorem CU.esc {y : UInt8} {s : Str} (h : CU s) : CU (92 :: y :: s) := ⟨by decide, by rw [if_pos rfl]; exact h⟩
theorem CU.escV : ∀ (s : Str), CU (R6 s)
  | [] => trivial
  | c :: s => by
    have ih := CU.escV s; have e : Tz.R6 (c :: s) = (if V9 c = true then [92, c] else [c]) ++ Tz.R6 s := (by simp [Tz.R6]); rw [e]; by_cases h : V9 c = true
    · rw [if_pos h]; exact ih.esc
    · rw [if_neg h]; refine ih.cons ?_ ?_
      · rintro rfl; exact h (by decide)
      · rintro rfl; exact h (by decide)
theorem CU.pre : ∀ {a : Str} {b : Str}, (∀ x ∈ a, x ≠ 92 ∧ x ≠ 44) → CU b → CU (a ++ b)
  | [], b, _, h => h
  | x :: a, b, hx, h => CU.cons (hx x (by simp)).1 (hx x (by simp)).2 (CU.pre (fun y hy => hx y (by simp [hy])) h)
theorem c2h {c : UInt8} (h : a1B c = true) : c ≠ 92 ∧ c ≠ 44 ∧ c ≠ 61 := by
  refine ⟨?_, ?_, ?_⟩ <;> (rintro rfl; revert h; decide)
theorem c1f {c : UInt8} (h : a1B c = true) : a1B (a1p c) = true := by
  by_cases h1 : 65 ≤ (c.toNat : Int) ∧ (c.toNat : Int) ≤ 90
  · have := a3W c h1.1 h1.2; simp only [a1B, a3c, Bool.or_eq_true, Bool.and_eq_true, decide_eq_true_eq]
    left; left; left
    omega
  · rw [a1p, if_neg h1]; exact h
theorem b7b {p : F9} (h : T5 p.1 = true) : CU (V6 p) := by
  refine CU.pre (fun x hx => ?_) ((CU.escV _).cons (by decide) (by decide)); simp only [D7, List.mem_map] at hx; obtain ⟨c, hc, rfl⟩ := hx; simp only [T5, Bool.and_eq_true, List.all_eq_true] at h; have := c2h (c1f (h.2 c hc)); exact ⟨this.1, this.2.1⟩
theorem b6F (p : F9) : V6 p ≠ [] := by simp [V6]
theorem a5o : ∀ {l : List Str}, l ≠ [] → (∀ p ∈ l, CU p) → P7 (D6 44 l) = l
  | [], h, _ => absurd rfl h
  | [p], _, h => by
    simp only [D6]; exact a3m (by rw [(h p (by simp)).all]; omega)
  | p :: q :: l, _, h => by
    have hp := h p (by simp); have ih := a5o (l := q :: l) (by simp) (fun x hx => h x (by simp at hx ⊢; right; exact hx)); have e : D6 44 (p :: q :: l) = p ++ 44 :: D6 44 (q :: l) := rfl; have hn := hp.next (D6 44 (q :: l)); rw [e, a6S (by rw [hn]; simp), hn]; have e1 : List.take p.length (p ++ 44 :: D6 44 (q :: l)) = p := (by simp); have e2 : List.drop (p.length + 1) (p ++ 44 :: D6 44 (q :: l)) = D6 44 (q :: l) := by rw [← List.drop_drop]; simp
    rw [e1, e2, ih]
theorem b5H {l : List Str} (h : l ≠ []) (hn : ∀ p ∈ l, p ≠ []) : D6 44 l ≠ [] := by
  match l, h with
  | [p], _ => exact hn p (by simp)
  | p :: q :: l, _ => simp [D6]
def NP (p : F9) : Prop := U5 (V6 p) = (p, 0)
theorem a6W {s : Str} {p : F9} (h : U5 s = (p, 0)) : T5 p.1 = true ∧ S4 p.2 = true := by
  unfold U5 at h; split at h
  · split at h
    · simp at h
    · split at h
      · simp at h
      · split at h
        · simp at h
        · rename_i h1 h2
          simp only [Prod.mk.injEq, and_true] at h; obtain ⟨rfl⟩ := h; exact ⟨by simpa using h1, by simpa using h2⟩
  · simp at h
theorem NP.pairE {p : F9} (h : NP p) : U6 p = 0 := by
  have := a6W h; simp [Tz.U6, this.1, this.2]
theorem a3n {l : List F9} : a0w l = 0 ↔ ∀ p ∈ l, U6 p = 0 := by
  induction l with
  | nil => simp [a0w]
  | cons p l ih =>
    simp only [a0w, List.mem_cons, forall_eq_or_imp]; by_cases h : U6 p = 0
    · simp [h, ih]
    · simp [h]
theorem b0Q : ∀ {ps : List Str} {qs out : List F9}, ps.length = qs.length → (∀ i (h1 : i < ps.length) (h2 : i < qs.length), U5 ps[i] = (qs[i], 0)) → Q5 out ps = if 8 < (out ++ qs).length then ([], 3) else (out ++ qs, 0)
  | [], [], out, _, _ => by simp [Q5]
  | p :: ps, q :: qs, out, hl, h => by
    have h0 := h 0 (by simp) (by simp); simp only [List.getElem_cons_zero] at h0; have ih := b0Q (ps := ps) (qs := qs) (out := out ++ [q]) (by simpa using hl) (fun i h1 h2 => by
      have := h (i + 1) (by simpa using h1) (by simpa using h2); simpa using this)
    simp only [Q5, h0, if_true, ih, List.append_assoc, List.singleton_append]
  | [], _ :: _, _, hl, _ => by simp at hl
  | _ :: _, [], _, hl, _ => by simp at hl
theorem a6C : ∀ {ps : List Str} {out r : List F9}, Q5 out ps = (r, 0) → ∃ qs, r = out ++ qs ∧ ps.length = qs.length ∧ r.length ≤ 8 ∧ ∀ i (h1 : i < ps.length) (h2 : i < qs.length), U5 ps[i] = (qs[i], 0)
  | [], out, r, h => by
    simp only [Q5] at h; split at h
    · simp at h
    · rename_i h8
      simp only [Prod.mk.injEq, and_true] at h; subst h; exact ⟨[], by simp, rfl, by omega, fun i h1 => by simp at h1⟩
  | p :: ps, out, r, h => by
    simp only [Q5] at h; split at h
    · rename_i h0
      obtain ⟨qs, hr, hl, h8, hq⟩ := a6C h; refine ⟨(U5 p).1 :: qs, by rw [hr]; simp, by simp [hl], h8, fun i h1 h2 => ?_⟩; cases i with
      | zero => simp only [List.getElem_cons_zero]; rw [← h0]
      | succ i => simpa using hq i (by simpa using h1) (by simpa using h2)
    · rename_i h0
      simp only [Prod.mk.injEq] at h; exact absurd h.2 h0
theorem c2b {l : List F9} (hn : ∀ p ∈ l, NP p) (h8 : l.length ≤ 8) : H9 l = (D6 44 (l.map V6), 0) ∧ M0 (D6 44 (l.map V6)) = some l := by
  have hE : a0w l = 0 := a3n.2 fun p hp => (hn p hp).pairE
  have hf : H9 l = (D6 44 (l.map V6), 0) := by
    have hc : a0b l = 0 := by rw [a0b, if_pos hE, if_neg (by omega)]
    rw [H9, if_pos hc]
  have hp : E5 (D6 44 (l.map V6)) = (l, 0) := by
    unfold E5; by_cases h : l = []
    · subst h; rfl
    · rw [if_neg (b5H (by simpa using h) (by simp only [List.mem_map]; rintro _ ⟨p, _, rfl⟩; exact b6F p)), a5o (by simpa using h) (by simp only [List.mem_map]; rintro _ ⟨p, hp, rfl⟩; exact b7b (a6W (hn p hp)).1)]; rw [b0Q (qs := l) (by simp) (fun i h1 h2 => by rw [List.getElem_map]; exact hn l[i] (gmm h2))]; simp only [List.nil_append]; rw [if_neg (by omega)]
  exact ⟨hf, by rw [M0, hp, if_pos ⟨rfl, hf⟩]⟩
theorem a2k {s : Str} {l : List F9} (h : M0 s = some l) : (∀ p ∈ l, NP p) ∧ l.length ≤ 8 ∧ s = D6 44 (l.map V6) ∧ E5 s = (l, 0) ∧ H9 l = (s, 0) := by
  unfold M0 at h; split at h
  · rename_i hh
    obtain ⟨h0, hf⟩ := hh; simp only [Option.some.injEq] at h; subst h; have hs : s = D6 44 ((E5 s).1.map V6) := by
      unfold H9 at hf; split at hf
      · simp only [Prod.mk.injEq, and_true] at hf; exact hf.symm
      · rename_i hc
        simp only [Prod.mk.injEq] at hf; exact absurd hf.2 hc
    have hchk : a0w (E5 s).1 = 0 ∧ (E5 s).1.length ≤ 8 := by
      unfold H9 at hf; split at hf
      · rename_i hc
        unfold a0b at hc; split at hc
        · rename_i he
          split at hc
          · simp at hc
          · exact ⟨he, by omega⟩
        · rename_i he; exact absurd hc he
      · rename_i hc
        simp only [Prod.mk.injEq] at hf; exact absurd hf.2 hc
    have hP : E5 s = ((E5 s).1, 0) := by rw [← h0]
    refine ⟨fun p hp => ?_, hchk.2, hs, hP, hf⟩; generalize hl : (E5 s).1 = l at *; by_cases hnil : l = []
    · subst hnil; simp at hp
    · have hnm : ∀ q ∈ l, T5 q.1 = true := fun q hq => by
        have := (a3n.1 hchk.1) q hq; unfold U6 at this; split at this
        · simp at this
        · rename_i h1; simpa using h1
      have hsn : s ≠ [] := by
        rw [hs]; exact b5H (by simpa using hnil) (by simp only [List.mem_map]; rintro _ ⟨p, _, rfl⟩; exact b6F p)
      have hpc : P7 s = l.map V6 := by
        rw [hs]; exact a5o (by simpa using hnil) (by simp only [List.mem_map]; rintro _ ⟨q, hq, rfl⟩; exact b7b (hnm q hq))
      rw [E5, if_neg hsn, hpc] at hP; obtain ⟨qs, hr, hlen, _, hq⟩ := a6C hP; simp only [List.nil_append] at hr; subst hr; obtain ⟨i, hi, rfl⟩ := List.getElem_of_mem hp; have := hq i (by simpa using hi) hi; rw [List.getElem_map] at this; exact this
  · cases h
theorem b3i {s t : Str} {l : List F9} (h1 : M0 s = some l) (h2 : M0 t = some l) : s = t := by rw [(a2k h1).2.2.1, (a2k h2).2.2.1]
theorem c0H {s t : Str} {l m : List F9} (h1 : M0 s = some l) (h2 : M0 t = some m) {n : List F9} (hn : ∀ p ∈ n, p ∈ l ∨ p ∈ m) (h8 : n.length ≤ 8) : H9 n = (D6 44 (n.map V6), 0) ∧ M0 (D6 44 (n.map V6)) = some n :=
  c2b (fun p hp => by
    rcases hn p hp with h | h
    · exact (a2k h1).1 p h
    · exact (a2k h2).1 p h) h8
def a3y (s : Str) : Nat := ((M0 s).getD []).length
abbrev Chg := Csn × Int × Str × Str × Str × Str
def A8 (c : Chg) : D := .agg [B6 c.1, .int .i64 c.2.1, .str c.2.2.1, .str c.2.2.2.1, .str c.2.2.2.2.1, .str c.2.2.2.2.2]
def H6 (l : List Chg) : D := .sl (l.map A8)
structure Q2 (c : Chg) : Prop where
  id : List.length c.2.2.1 < 900000
  name : List.length c.2.2.2.1 < 900000
  attr : List.length c.2.2.2.2.1 < 900000
  value : List.length c.2.2.2.2.2 < 900000
def F4 (op : Int) : Bool := decide (op = 1) || decide (op = 3)
def F1 (op : Int) : Bool := decide (op = 4) || decide (op = 5)
def J1 (c : Chg) : Bool := (!F4 c.2.1 && decide (c.2.2.2.1 ≠ [])) || (!F1 c.2.1 && (decide (c.2.2.2.2.1 ≠ []) || decide (c.2.2.2.2.2 ≠ [])))
def J2 (c : Chg) : Bool := (F4 c.2.1 && (decide (c.2.2.2.1 = []) || !K7 c.2.2.2.1)) || (F1 c.2.1 && (!T5 c.2.2.2.2.1 || decide (D7 c.2.2.2.2.1 ≠ c.2.2.2.2.1)))
def I1 (c : Chg) : Int :=
  if T7 c.1 = false ∨ c.2.1 < 1 ∨ 5 < c.2.1 then 2
  else if (N8 c.2.2.1).2 ≠ 0 ∨ J1 c = true then 4
  else if J2 c = true then 5
  else if F1 c.2.1 = true ∧ S4 c.2.2.2.2.2 = false then 8 else 0
abbrev o1W : Str := [99, 114, 101, 97, 116, 101]
abbrev o2W : Str := [114, 101, 109, 111, 118, 101]
abbrev o3W : Str := [114, 101, 110, 97, 109, 101]
abbrev o4W : Str := [112, 117, 116]
abbrev o5W : Str := [100, 114, 111, 112]
def opW (x : Int) : Str := if x = 1 then o1W else if x = 2 then o2W else if x = 3 then o3W else if x = 4 then o4W else if x = 5 then o5W else []
def opV (w : Str) : Int := if w = o1W then 1 else if w = o2W then 2 else if w = o3W then 3 else if w = o4W then 4 else if w = o5W then 5 else 0
theorem c4i {x : Int} (h1 : 1 ≤ x) (h5 : x ≤ 5) : opV (opW x) = x := by
  have : x = 1 ∨ x = 2 ∨ x = 3 ∨ x = 4 ∨ x = 5 := (by omega); rcases this with rfl | rfl | rfl | rfl | rfl <;> decide
def a2C (c : Chg) : List Str :=
  if F4 c.2.1 = true then [opW c.2.1, H8 c.1, c.2.2.1, Q3 c.2.2.2.1]
  else if F1 c.2.1 = true then [opW c.2.1, H8 c.1, c.2.2.1, Q3 c.2.2.2.2.1, Q3 c.2.2.2.2.2]
  else [opW c.2.1, H8 c.1, c.2.2.1]
def a3t (c : Chg) : Str := D6 32 (a2C c)
def I0 (c : Chg) : Str × Int := if I1 c = 0 then (a3t c, 0) else ([], I1 c)
def c3q (s : Str) (e : Int) (c : Chg) : Option Chg := if e = 0 ∧ I1 c = 0 ∧ a3t c = s then some c else none
def b8K (s : Str) : List Str → Option Chg
  | [a, b, i] => c3q s (N8 b).2 ((N8 b).1, opV a, i, [], [], [])
  | [a, b, i, n] => c3q s (N8 b).2 ((N8 b).1, opV a, i, (a5N n).1, [], [])
  | [a, b, i, x, y] => c3q s (N8 b).2 ((N8 b).1, opV a, i, [], (a5N x).1, (a5N y).1)
  | _ => none
def c3B (s : Str) : Option Chg := b8K s (a0Q 32 s)
def L9 : Chg := ((0, 0, 0), 0, [], [], [], [])
structure OkC (c : Chg) : Prop where
  num : T7 c.1 = true
  op1 : 1 ≤ c.2.1
  op5 : c.2.1 ≤ 5
  id : (N8 c.2.2.1).2 = 0
  used : J1 c = false
  name : J2 c = false
  value : ¬ (F1 c.2.1 = true ∧ S4 c.2.2.2.2.2 = false)
theorem a0z {c : Chg} : I1 c = 0 ↔ OkC c := by
  unfold I1; constructor
  · intro h; split at h
    · cases h
    · rename_i h1
      split at h
      · cases h
      · rename_i h2
        split at h
        · cases h
        · rename_i h3
          split at h
          · cases h
          · rename_i h4
            simp only [not_or, Bool.not_eq_false, Int.not_lt] at h1; simp only [not_or, Classical.not_not, Bool.not_eq_true, ne_eq] at h2; exact ⟨h1.1, h1.2.1, h1.2.2, h2.1, h2.2, by simpa using h3, h4⟩
  · rintro ⟨a, b, c', d, e, f, g⟩; rw [if_neg (by rw [a]; simp; omega), if_neg (by rw [d, e]; simp), if_neg (by rw [f]; simp), if_neg g]
theorem a6r : (32 : UInt8) ∉ J4 ∧ (10 : UInt8) ∉ J4 := by decide
theorem c9c {s : Str} (h : (N8 s).2 = 0) {d : UInt8} (hd : d = 32 ∨ d = 10) : d ∉ s := by
  have h1 : N8 s = ((N8 s).1, 0) := by rw [← h]
  have h2 := (a4r h1).1; rw [← h2]; rcases hd with rfl | rfl
  · exact a3U a6r.1 (by decide) (by decide)
  · exact a3U a6r.2 (by decide) (by decide)
theorem c6A {x : Int} {d : UInt8} (hd : d = 32 ∨ d = 10) : d ∉ opW x := by
  unfold opW; rcases hd with rfl | rfl
  all_goals
    split
    · decide
    · split
      · decide
      · split
        · decide
        · split
          · decide
          · split <;> decide
theorem b9p {c : Chg} (h : OkC c) {d : UInt8} (hd : d = 32 ∨ d = 10) : ∀ w ∈ a2C c, d ∉ w := by
  have hf : d ∉ H8 c.1 := by
    rcases hd with rfl | rfl
    · exact a3U a6r.1 (by decide) (by decide)
    · exact a3U a6r.2 (by decide) (by decide)
  have hi := c9c h.id hd; have ho := c6A (x := c.2.1) hd; have he : ∀ s, d ∉ Q3 s := fun s => by
    rcases hd with rfl | rfl
    · exact b9V s
    · exact c1b s
  unfold a2C; intro w hw; split at hw
  · simp only [List.mem_cons, List.not_mem_nil, or_false] at hw; rcases hw with rfl | rfl | rfl | rfl
    · exact ho
    · exact hf
    · exact hi
    · exact he _
  · split at hw
    · simp only [List.mem_cons, List.not_mem_nil, or_false] at hw; rcases hw with rfl | rfl | rfl | rfl | rfl
      · exact ho
      · exact hf
      · exact hi
      · exact he _
      · exact he _
    · simp only [List.mem_cons, List.not_mem_nil, or_false] at hw; rcases hw with rfl | rfl | rfl
      · exact ho
      · exact hf
      · exact hi
theorem b0H (s : Str) : (a5N (Q3 s)).1 = s := by rw [b5Q (b9N s)]
theorem b9A (c : Chg) : a2C c ≠ [] := by unfold a2C; split <;> (try split) <;> simp
theorem b0I {c : Chg} (h : I1 c = 0) : c3B (a3t c) = some c := by
  have ho := a0z.1 h; have hs := b1m (c := 32) (b9A c) (b9p ho (.inl rfl)); have hp := b5f ho.num; have hv := c4i ho.op1 ho.op5; have hu := ho.used; have hl : a3t c = D6 32 (a2C c) := rfl; rw [c3B]; rw [← hl] at hs; rw [hs]; obtain ⟨n, op, id, nm, at_, va⟩ := c; simp only [J1, Bool.or_eq_false_iff, Bool.and_eq_false_iff, Bool.not_eq_false', decide_eq_false_iff_not, Classical.not_not, ne_eq] at hu; simp only at hp hv; unfold a2C; by_cases h1 : F4 op = true
  · have h2 : F1 op = false := by
      simp only [F4, F1, Bool.or_eq_true, decide_eq_true_eq, Bool.or_eq_false_iff, decide_eq_false_iff_not] at h1 ⊢; omega
    obtain ⟨e1, e2⟩ : at_ = [] ∧ va = [] := by
      rcases hu.2 with e | e
      · rw [h2] at e; cases e
      · exact e
    subst e1; subst e2; simp only [h1, if_true, b8K, hp, hv, b0H]; exact if_pos ⟨rfl, h, rfl⟩
  · have h1' : F4 op = false := (by simpa using h1); obtain rfl : nm = [] := by
      rcases hu.1 with e | e
      · rw [h1'] at e; cases e
      · exact e
    by_cases h2 : F1 op = true
    · simp only [h1', h2, Bool.false_eq_true, if_false, if_true, b8K, hp, hv, b0H]; exact if_pos ⟨rfl, h, rfl⟩
    · have h2' : F1 op = false := (by simpa using h2); obtain ⟨e1, e2⟩ : at_ = [] ∧ va = [] := by
        rcases hu.2 with e | e
        · rw [h2'] at e; cases e
        · exact e
      subst e1; subst e2; simp only [h1', h2', Bool.false_eq_true, if_false, b8K, hp, hv]; exact if_pos ⟨rfl, h, rfl⟩
theorem c0z {c d : Chg} (h1 : I1 c = 0) (h2 : I1 d = 0) (h : a3t c = a3t d) : c = d := by
  have a := b0I h1; rw [h, b0I h2] at a; exact (Option.some.inj a).symm
structure d4B (S R : List Chg) : Prop where
  asc : R.Pairwise fun a b => W4 a.1 b.1 < 0
  mem : ∀ r, r ∈ R ↔ (r ∈ S ∧ I1 r = 0 ∧ ∀ r' ∈ S, I1 r' = 0 → r'.1 = r.1 → a3t r ≤ a3t r')
theorem c3K (a b : UInt8) : ((a.toNat : Int) = (b.toNat : Int)) ↔ a = b := by
  constructor
  · intro h; have : a.toNat = b.toNat := (by omega); exact UInt8.toNat_inj.1 this
  · rintro rfl; rfl
theorem c3r (c : UInt8) : V9 c = (decide ((c.toNat : Int) = 44) || decide ((c.toNat : Int) = 61) || decide ((c.toNat : Int) = 43) || decide ((c.toNat : Int) = 92)) := by
  have h := fun k (hk : k < 256) => Y2 c k hk
  have h1 := h 44 (by omega); have h2 := h 61 (by omega); have h3 := h 43 (by omega); have h4 := h 92 (by omega); simp only [V9]; congr 1
  · congr 1
    · congr 1
      · exact decide_eq_decide.2 h1.symm
      · exact decide_eq_decide.2 h2.symm
    · exact decide_eq_decide.2 h3.symm
  · exact decide_eq_decide.2 h4.symm
theorem a0i (c : UInt8) : Ctr prog 170 [.d (u8 c)] (.d (.bool (V9 c))) := by
  refine fv (fun _ => false) func170 (by kernel_rfl) rfl rfl rfl rfl rfl ?_; rw [c3r]; by_cases h1 : (c.toNat : Int) = 44 <;> by_cases h2 : (c.toNat : Int) = 61 <;> by_cases h3 : (c.toNat : Int) = 43 <;> simp -implicitDefEqProofs [u8, h1, h2, h3]
theorem a6q {c : UInt8} {s : Str} {k : Nat} (h : k < s.length) : F8 c (s.drop k) = if s[k] = c then 0 else if s[k] = 92 then (if k + 1 < s.length then 2 + F8 c (s.drop (k + 2)) else 1) else 1 + F8 c (s.drop (k + 1)) := by
  rw [a2t h]; by_cases h2 : k + 1 < s.length
  · rw [a2t h2, F8]; simp only [if_pos h2]
  · have e : s.drop (k + 1) = [] := List.drop_eq_nil_of_le (by omega); rw [e, F8]; simp only [if_neg h2, F8]; by_cases h3 : s[k] = 92 <;> simp [h3]
def a1q (c : UInt8) (s : Str) : Int := if F8 c s < s.length then (F8 c s : Int) else -1
def NxI (c : UInt8) (s : Str) (k : Nat) : Prop := (k ≤ s.length → F8 c s = k + F8 c (s.drop k)) ∧ (s.length < k → F8 c s = s.length)
theorem NxI.zero (c : UInt8) (s : Str) : NxI c s 0 := ⟨fun _ => by simp, fun h => by omega⟩
theorem NxI.hit {c : UInt8} {s : Str} {k : Nat} (h : NxI c s k) (hk : k < s.length) (e : s[k] = c) : F8 c s = k := by
  rw [h.1 (by omega), a6q hk, if_pos e]; rfl
theorem NxI.one {c : UInt8} {s : Str} {k : Nat} (h : NxI c s k) (hk : k < s.length) (e : s[k] ≠ c) (e2 : s[k] ≠ 92) : NxI c s (k + 1) := by
  refine ⟨fun _ => ?_, fun h => by omega⟩; rw [h.1 (by omega), a6q hk, if_neg e, if_neg e2]; omega
theorem NxI.two {c : UInt8} {s : Str} {k : Nat} (h : NxI c s k) (hk : k < s.length) (e : s[k] ≠ c) (e2 : s[k] = 92) : NxI c s (k + 2) := by
  have h1 := h.1 (by omega); rw [a6q hk, if_neg e, if_pos e2] at h1; refine ⟨fun h2 => ?_, fun h2 => ?_⟩
  · rw [h1, if_pos (by omega)]; omega
  · rw [h1, if_neg (by omega)]; omega
theorem NxI.over {c : UInt8} {s : Str} {k : Nat} (h : NxI c s k) (hk : ¬ k < s.length) : F8 c s = s.length := by
  by_cases e : k = s.length
  · rw [h.1 (by omega), e]; simp [F8]
  · exact h.2 (by omega)
theorem b2U (s : Str) (c : UInt8) (hs : List.length s < 1000000) : Ctr prog 211 [.d (.str s), .d (u8 c)] (.d (.int .i64 (a1q c s))) := by
  refine fv (fun _ => false) func211 (by kernel_rfl) rfl rfl rfl rfl rfl ?_; simp -implicitDefEqProofs [u8]; refine H3 (List.length s + 1) (fun k τ => τ 0 = .d (.str s) ∧ τ 1 = .d (.int .u8 c.toNat) ∧ τ 5 = .d (.int .i64 k) ∧ NxI c s k) ⟨by simp, by simp, by simp, .zero c s⟩ ?_; rintro k τ hk ⟨h0, h1, h5, hI⟩; by_cases hlt : k < List.length s
  · by_cases h2 : s[k] = c
    · have h2' : (s[k].toNat : Int) = c.toNat := (c3K _ _).2 h2; have hn := hI.hit hlt h2; simp -implicitDefEqProofs [h0, h1, h5, hlt, h2']; rw [a1q, hn, if_pos hlt]
    · have h2' : ¬ (s[k].toNat : Int) = c.toNat := fun e => h2 ((c3K _ _).1 e)
      by_cases h3 : s[k] = 92
      · have h3' : (s[k].toNat : Int) = 92 := (Y2 s[k] 92 (by omega)).2 h3; have h9 : ¬ (92 : Int) = c.toNat := by rw [← h3']; exact h2'
        simp -implicitDefEqProofs [h0, h1, h5, hlt, h2', h3', h9]; (repeat refine ai (by omega) ?_); exact b9X (k' := k + 2) (by omega) (by omega) ⟨by simp [h0], by simp [h1], by simp; omega, hI.two hlt h2 h3⟩
      · have h3' : ¬ (s[k].toNat : Int) = 92 := fun e => h3 ((Y2 s[k] 92 (by omega)).1 e)
        simp -implicitDefEqProofs [h0, h1, h5, hlt, h2', h3']; (repeat refine ai (by omega) ?_); exact E8 (by omega) ⟨by simp [h0], by simp [h1], by simp, hI.one hlt h2 h3⟩
  · have hn := hI.over hlt; have hlt' : ¬ (k : Int) < (List.length s : Int) := (by omega); simp -implicitDefEqProofs [h0, h1, h5, hlt']; rw [a1q, hn, if_neg (by omega)]
def PcI (s : Str) (m : Nat) (τ : St) : Prop := ∃ (rest : Str) (out : List Str), m = List.length rest ∧ τ 0 = .d (.str rest) ∧ τ 3 = .own true 9 (out.map .str) ∧ List.length rest ≤ List.length s ∧ out.length + List.length rest ≤ List.length s ∧ P7 s = out ++ P7 rest
theorem b7R (s : Str) (hs : List.length s < 1000000) : Ctr prog 183 [.d (.str s)] (.own true 9 ((P7 s).map .str)) := by
  refine fv (fun i => decide (i < 1000000)) func183 (by kernel_rfl) rfl rfl rfl rfl rfl ?_; simp -implicitDefEqProofs; refine b1A (PcI s) (List.length s) ⟨s, [], rfl, by simp, by simp, by omega, by simp, by simp⟩ ?_; rintro m τ ⟨rest, out, rfl, h0, h3, hr, ho, hp⟩; simp -implicitDefEqProofs [h0, h3]; refine A3 (b2U rest 44 (by omega)) ?_; by_cases hlt : F8 44 rest < rest.length
  · have hx : a1q 44 rest = (F8 44 rest : Int) := by rw [a1q, if_pos hlt]
    have hp2 := a6S hlt; generalize hj : F8 44 rest = j at *; have i0 : ¬ (j : Int) < 0 := (by omega); have i1 : (0 : Int) ≤ (j : Int) + 1 := (by omega); have j1 : ((j : Int) + 1).toNat = j + 1 := (by omega); simp -implicitDefEqProofs [h0, h3, hx, i0, i1, j1]; (repeat refine ai (by omega) ?_); refine ⟨List.length (rest.drop (j + 1)), by simp; omega, rest.drop (j + 1), out ++ [rest.take j], rfl, ?_, by simp, by simp; omega, by simp; omega, by rw [hp, hp2]; simp⟩; simp; exact ttl (by simp)
  · have hx : a1q 44 rest = -1 := by rw [a1q, if_neg hlt]
    simp -implicitDefEqProofs [h0, h3, hx]; (repeat refine ai (by omega) ?_); rw [hp, a3m hlt]; simp
theorem a2j (s : Str) : (I7 s).length ≤ s.length := by
  have h1 : (Y1 32 (S0 32 s)).length ≤ (S0 32 s).length := (List.dropWhile_sublist _).length_le; have h2 : (S0 32 s).length ≤ s.length := by
    rw [S0, List.length_reverse]; have := (List.dropWhile_sublist (l := s.reverse) fun x => decide (x = 32)).length_le; simpa using this
  rw [I7]; omega
theorem b6l (s : Str) : (Y1 32 s).head? ≠ some 32 := by
  induction s with
  | nil => simp [Y1]
  | cons x s ih =>
    rw [Y1, List.dropWhile_cons]; by_cases hx : x = 32
    · rw [if_pos (by simp [hx])]; exact ih
    · rw [if_neg (by simp [hx])]; simpa using hx
theorem c5g (c : UInt8) : a1p c = 32 ↔ c = 32 := by
  constructor
  · intro h; by_cases h1 : 65 ≤ (c.toNat : Int) ∧ (c.toNat : Int) ≤ 90
    · have := a3W c h1.1 h1.2; rw [h] at this; have h3 : ((32 : UInt8).toNat : Int) = 32 := rfl; omega
    · rw [a1p, if_neg h1] at h; exact h
  · rintro rfl; decide
theorem c1U {s : Str} (h : (D7 (I7 s)).head? = some 32) : False := by
  have := b6l (S0 32 s); rw [← I7] at this; cases hq : I7 s with
  | nil => rw [hq] at h; simp [D7] at h
  | cons x t =>
    rw [hq] at h this; simp only [D7, List.map_cons, List.head?_cons, Option.some.injEq] at h; exact this (by simp [(c5g x).1 h])
theorem a9P : ∀ (a : Str) (p x : UInt8), sqz p (a ++ [x]) = sqz p a ++ (if x = 32 ∧ a.getLast?.getD p = 32 then [] else [x])
  | [], p, x => by by_cases h : x = 32 ∧ p = 32 <;> simp [sqz, h]
  | y :: a, p, x => by
    have ih1 := a9P a y x; have ih2 := a9P a p x; have hl : (y :: a).getLast?.getD p = a.getLast?.getD y := by rw [List.getLast?_cons]; rfl
    rw [hl]; simp only [List.cons_append, sqz]; by_cases h : y = 32 ∧ p = 32
    · obtain ⟨rfl, rfl⟩ := h; simp only [and_self, if_true]; exact ih1
    · rw [if_neg h, if_neg h, ih1]; rfl
theorem a8G : ∀ (a : Str) (p : UInt8), (sqz p a).length ≤ a.length
  | [], _ => by simp [sqz]
  | y :: a, p => by
    have h1 := a8G a p; have h2 := a8G a y; simp only [sqz]; split <;> simp <;> omega
theorem b3p (s : Str) : (X2 s).length ≤ s.length := by
  have h1 := a8G (D7 (I7 s)) 0; rw [S9] at h1; have := a2j s; rw [X2]; omega
theorem b5b {t : Str} {k : Nat} (h : k ≤ t.length) (h0 : 0 < k) (p : UInt8) : (t.take k).getLast?.getD p = t[k - 1]'(by omega) := by
  rw [List.getLast?_eq_getElem?, List.length_take, Nat.min_eq_left h, List.getElem?_take, if_pos (by omega), List.getElem?_eq_getElem (by omega)]; rfl
theorem a9J {t : Str} {k : Nat} (h : k < t.length) (hh : t.head? ≠ some 32) : sqz 0 (t.take (k + 1)) = sqz 0 (t.take k) ++ (if t[k] = 32 ∧ (∀ (h0 : 0 < k), t[k - 1] = 32) then [] else [t[k]]) := by
  rw [G5 h, a9P]; congr 1
  by_cases h0 : 0 < k
  · rw [b5b (by omega) h0]; by_cases h1 : t[k] = 32 ∧ t[k - 1] = 32
    · rw [if_pos h1, if_pos ⟨h1.1, fun _ => h1.2⟩]
    · rw [if_neg h1, if_neg fun e => h1 ⟨e.1, e.2 h0⟩]
  · obtain rfl : k = 0 := by omega
    have h2 : t[0] ≠ 32 := by
      intro e; apply hh
      cases t with
      | nil => simp at h
      | cons x t => simpa using e
    rw [if_neg (fun e => h2 e.1), if_neg (fun e => h2 e.1)]
theorem c1g {t : Str} {k : Nat} (h : k < t.length) (hh : t.head? ≠ some 32) (e : t[k] ≠ 32) : sqz 0 (t.take (k + 1)) = sqz 0 (t.take k) ++ [t[k]] := by
  rw [a9J h hh, if_neg fun q => e q.1]
theorem c0U {t : Str} {k : Nat} (h : k < t.length) (hh : t.head? ≠ some 32) (h0 : 0 < k) (e : t[k - 1] ≠ 32) : sqz 0 (t.take (k + 1)) = sqz 0 (t.take k) ++ [t[k]] := by
  rw [a9J h hh, if_neg fun q => e (q.2 h0)]
theorem b9R {t : Str} {k : Nat} (h : k < t.length) (hh : t.head? ≠ some 32) (e : t[k] = 32) (h0 : 0 < k) (e2 : t[k - 1] = 32) : sqz 0 (t.take (k + 1)) = sqz 0 (t.take k) := by
  rw [a9J h hh, if_pos ⟨e, fun _ => e2⟩, List.append_nil]
theorem c2e (s : Str) (hs : List.length s < 1000000) : Ctr prog 169 [.d (.str s)] (.d (.str (X2 s))) := by
  refine fv (fun _ => false) func169 (by kernel_rfl) rfl rfl rfl rfl rfl ?_; have ht := a2j s; have hl : List.length (D7 (I7 s)) < 1000000 := by rw [S9]; omega
  have hh : (D7 (I7 s)).head? ≠ some 32 := fun h => c1U h
  have hf : X2 s = sqz 0 (D7 (I7 s)) := rfl; have c2 := a2n (I7 s) (by omega); simp -implicitDefEqProofs; refine A3 (a8X s hs) ?_; simp -implicitDefEqProofs; refine A3 c2 ?_; clear c2; rw [hf]; generalize D7 (I7 s) = t at *; simp -implicitDefEqProofs; refine H3 t.length (fun k τ => τ 3 = .d (.str t) ∧ τ 10 = .d (.int .i64 t.length) ∧ τ 11 = .d (.int .i64 k) ∧ τ 4 = .own false 5 (D5 (sqz 0 (t.take k)))) ⟨by simp, by simp, by simp, by simp [sqz, D5]⟩ ?_; rintro k τ hk ⟨h3, h10, h11, h4⟩; by_cases hlt : k < List.length t
  · have hq := a8G (t.take k) 0; rw [List.length_take] at hq; by_cases e1 : t[k] = 32
    · have e1' : (t[k].toNat : Int) = 32 := (Y2 _ 32 (by omega)).2 e1; have h0 : 0 < k := by
        rcases Nat.eq_zero_or_pos k with rfl | h
        · exfalso
          apply hh
          cases t with
          | nil => simp at hlt
          | cons x t => simpa using e1
        · exact h
      have i1 : (0 : Int) ≤ (k : Int) - 1 := (by omega); have j1 : ((k : Int) - 1).toNat = k - 1 := (by omega); have l1 : k - 1 < List.length t := (by omega); by_cases e2 : t[k - 1] = 32
      · have e2' : (t[k - 1].toNat : Int) = 32 := (Y2 _ 32 (by omega)).2 e2; have hs3 := b9R hlt hh e1 h0 e2; simp -implicitDefEqProofs [h3, h10, h11, h4, hlt, e1', e2', i1, j1, l1]; (repeat refine ai (by omega) ?_); refine E8 hlt ⟨by simp [h3], by simp [h10], by simp, by simp [hs3, h4]⟩
      · have e2' : ¬ (t[k - 1].toNat : Int) = 32 := fun e => e2 ((Y2 _ 32 (by omega)).1 e)
        have hs3 := c0U hlt hh h0 e2; simp -implicitDefEqProofs [h3, h10, h11, h4, hlt, e1', e2', i1, j1, l1]; (repeat refine And.intro (by first | omega | (simp [D5]; omega)) ?_); refine E8 hlt ⟨by simp [h3], by simp [h10], by simp, by simp [hs3, D5, e1']⟩
    · have e1' : ¬ (t[k].toNat : Int) = 32 := fun e => e1 ((Y2 _ 32 (by omega)).1 e)
      have hs3 := c1g hlt hh e1; simp -implicitDefEqProofs [h3, h10, h11, h4, hlt, e1']; (repeat refine And.intro (by first | omega | (simp [D5]; omega)) ?_); refine E8 hlt ⟨by simp [h3], by simp [h10], by simp, by simp [hs3, D5]⟩
  · rw [ttl (by omega)] at h4; simp -implicitDefEqProofs [h3, h10, h11, h4, hlt]
theorem b8j {s : Str} {k : Nat} (h : k + 1 < s.length) (e : s[k] = 92) : P1 (s.drop k) = if V9 s[k + 1] = true then (P1 (s.drop (k + 2))).map (s[k + 1] :: ·) else none := by
  rw [a2t (show k < s.length by omega), a2t h, P1, if_pos e]
theorem b8N {s : Str} {k : Nat} (h : k < s.length) (h2 : ¬ k + 1 < s.length) (e : s[k] = 92) : P1 (s.drop k) = none := by
  rw [a2t h, List.drop_eq_nil_of_le (by omega), P1, if_pos e]
theorem b7Z {s : Str} {k : Nat} (h : k < s.length) (e : s[k] ≠ 92) : P1 (s.drop k) = if V9 s[k] = true then none else (P1 (s.drop (k + 1))).map (s[k] :: ·) := by
  rw [a2t h]; by_cases h2 : k + 1 < s.length
  · rw [a2t h2, P1, if_neg e]
  · rw [List.drop_eq_nil_of_le (by omega)]; simp only [P1, if_neg e]; rfl
theorem a5X : ∀ (n : Nat) (s : Str), s.length ≤ n → ∀ v, P1 s = some v → v.length ≤ s.length
  | _, [], _, v, h => by simp only [P1, Option.some.injEq] at h; subst h; simp
  | 0, x :: s, hn, _, _ => by simp at hn
  | n + 1, [x], _, v, h => by
    simp only [P1] at h; split at h
    · cases h
    · split at h
      · cases h
      · simp only [Option.some.injEq] at h; subst h; simp
  | n + 1, x :: y :: r, hn, v, h => by
    simp only [List.length_cons] at hn; simp only [P1] at h; split at h
    · split at h
      · obtain ⟨w, hw, rfl⟩ := Option.map_eq_some_iff.1 h; have := a5X n r (by omega) w hw; simp only [List.length_cons]; omega
      · cases h
    · split at h
      · cases h
      · obtain ⟨w, hw, rfl⟩ := Option.map_eq_some_iff.1 h; have := a5X n (y :: r) (by simp only [List.length_cons]; omega) w hw; simp only [List.length_cons] at this ⊢; omega
def a5k (o : Option Str) : Str × Bool := match o with
  | some v => (v, true)
  | none => ([], false)
def VaI (f : Str → Option Str) (s : Str) (k : Nat) (out : Str) : Prop := f s = (f (s.drop k)).map (out ++ ·) ∧ out.length ≤ k
theorem VaI.zero {f : Str → Option Str} (s : Str) : VaI f s 0 [] := ⟨by simp, by simp⟩
theorem VaI.one {f : Str → Option Str} {s : Str} {k j : Nat} {out : Str} {x : UInt8} (h : VaI f s k out) (hj : k < j) (e : f (s.drop k) = (f (s.drop j)).map (x :: ·)) : VaI f s j (out ++ [x]) := by
  refine ⟨?_, ?_⟩
  · rw [h.1, e]; cases f (s.drop j) <;> simp
  · have := h.2; simp; omega
theorem VaI.none {f : Str → Option Str} {s : Str} {k : Nat} {out : Str} (h : VaI f s k out) (e : f (s.drop k) = Option.none) : f s = Option.none := by rw [h.1, e]; rfl
theorem VaI.all {f : Str → Option Str} {s : Str} {k : Nat} {out : Str} (h : VaI f s k out) (hk : ¬ k < s.length) (e : f [] = some []) : f s = some out := by
  rw [h.1, List.drop_eq_nil_of_le (by omega), e]; simp
theorem b9g (s : Str) (hs : List.length s < 1000000) : Ctr prog 212 [.d (.str s)] (.tup [.d (.str (a5k (P1 s)).1), .d (.bool (a5k (P1 s)).2)]) := by
  refine N7 (rv := .tmp 2) (rs := [.tmp 3]) (r := .d (.str (a5k (P1 s)).1)) (ys := [.d (.bool (a5k (P1 s)).2)]) (fun i => i == 1000004 || i == 5000038 || i == 5000039) (by kernel_rfl) func212 (by kernel_rfl) rfl rfl (by simp) (nbl rfl) (by kernel_rfl) rfl rfl ?_; simp -implicitDefEqProofs; refine b3V 1000000 1000001 5 (by simp) (by kernel_rfl) (by simp) (by simp) (fun b => ?_); simp -implicitDefEqProofs; refine H3 (List.length s) (fun k τ => τ 0 = .d (.str s) ∧ τ 5 = .d (.int .i64 k) ∧ τ 4 = .d (.raw (va b)) ∧ ∃ out, VaI P1 s k out ∧ a8I τ b out) ?_ ?_
  · exact ⟨by simp, by simp, by simp, [], .zero s, .nilp, .slice none 0 0, .inl rfl, by simp [b3H], by simp [D5]⟩
  rintro k τ hk ⟨h0, h5, h4, out, hI, p, hd, hp, hb, hh⟩; have hol := hI.2; by_cases hlt : k < List.length s
  · by_cases h2 : s[k] = 92
    · have h2' : (s[k].toNat : Int) = 92 := (Y2 s[k] 92 (by omega)).2 h2; by_cases h3 : k + 1 < List.length s
      · have e := b8j h3 h2; have ne : ¬ (k : Int) + 1 = (List.length s : Int) := (by omega); have i1 : (0 : Int) ≤ (k : Int) + 1 := (by omega); have j1 : ((k : Int) + 1).toNat = k + 1 := (by omega); by_cases h6 : V9 s[k + 1] = true
        · rw [if_pos h6] at e; simp -implicitDefEqProofs [h0, h5, h4, hlt, h2', ne, h3, i1, j1]; (repeat refine ai (by omega) ?_); refine A3 (a0i s[k + 1]) ?_; simp -implicitDefEqProofs [h0, h5, h4, hlt, h2', ne, h3, i1, j1, h6]; refine M3 [1000000, 1000001] 1000000 (J5 (s := out) (hd := hd) hp s[k + 1] (by omega)) (by simp [hb, hh]) rfl (by simp) ?_; rintro r hs' ⟨hd1, rfl⟩; simp -implicitDefEqProofs [h0, h5, h4, hlt, C0, D1]; (repeat refine ai (by omega) ?_); exact b9X (k' := k + 2) (by omega) (by omega) ⟨by simp [h0], by simp; omega, by simp [h4], out ++ [s[k + 1]], hI.one (by omega) e, .raw (va b), hd1, .inr rfl, by simp, by simp⟩
        · rw [if_neg h6] at e; have hn := hI.none e; simp -implicitDefEqProofs [h0, h5, h4, hlt, h2', ne, h3, i1, j1]; (repeat refine ai (by omega) ?_); refine A3 (a0i s[k + 1]) ?_; simp -implicitDefEqProofs [h0, h5, h4, hlt, h2', ne, h3, i1, j1, h6, a5k, hn]
      · have hn := hI.none (b8N hlt h3 h2); have ne : (k : Int) + 1 = (List.length s : Int) := (by omega); simp -implicitDefEqProofs [h0, h5, h4, hlt, h2', ne, a5k, hn]; try omega
    · have h2' : ¬ (s[k].toNat : Int) = 92 := fun e => h2 ((Y2 s[k] 92 (by omega)).1 e)
      have e := b7Z hlt h2; simp -implicitDefEqProofs [h0, h5, h4, hlt, h2']; refine A3 (a0i s[k]) ?_; by_cases h6 : V9 s[k] = true
      · rw [if_pos h6] at e; have hn := hI.none e; simp -implicitDefEqProofs [h0, h5, h4, hlt, h2', h6, a5k, hn]
      · rw [if_neg h6] at e; simp -implicitDefEqProofs [h0, h5, h4, hlt, h2', h6]; refine M3 [1000000, 1000001] 1000000 (J5 (s := out) (hd := hd) hp s[k] (by omega)) (by simp [hb, hh]) rfl (by simp) ?_; rintro r hs' ⟨hd1, rfl⟩; simp -implicitDefEqProofs [h0, h5, h4, hlt, C0, D1]; (repeat refine ai (by omega) ?_); exact E8 hlt ⟨by simp [h0], by simp, by simp [h4], out ++ [s[k]], hI.one (by omega) e, .raw (va b), hd1, .inr rfl, by simp, by simp⟩
  · have hv := hI.all hlt rfl; simp -implicitDefEqProofs [h0, h5, h4, hlt]; refine M3 [1000000, 1000001] 1000000 (a5d (s := out) (hd := hd) hp) (by simp [hb, hh]) rfl (by simp) ?_; rintro r hs' ⟨rfl, rfl⟩; simp -implicitDefEqProofs [h0, h5, h4, hlt, C0, D1, a5k, hv]
theorem b6c (s : Str) (hs : List.length s < 1000000) : Ctr prog 213 [.d (.str s)] (.d (.str (I7 s))) := by
  refine fv (fun _ => false) func213 (by kernel_rfl) rfl rfl rfl rfl rfl ?_; simp -implicitDefEqProofs; refine A3 (a8X s hs) ?_; simp -implicitDefEqProofs
theorem c1s (s : Str) (hs : List.length s < 1000000) : Ctr prog 184 [.d (.str s)] (.tup [.d (O9 (U5 s).1), .d (.int .i64 (U5 s).2)]) := by
  refine N7 (rv := .cell 2 121) (rs := [.tmp 3]) (r := .d (O9 (U5 s).1)) (ys := [.d (.int .i64 (U5 s).2)]) (fun _ => false) (by kernel_rfl) func184 (by kernel_rfl) rfl rfl (by simp) (nbl rfl) (by kernel_rfl) rfl rfl ?_; simp -implicitDefEqProofs; refine A3 (b2U s 61 hs) ?_; by_cases hlt : F8 61 s < s.length
  case neg =>
    have hx : a1q 61 s = -1 := by rw [a1q, if_neg hlt]
    simp -implicitDefEqProofs [hx]; simp [U5, hlt, O9]
  have hx : a1q 61 s = (F8 61 s : Int) := by rw [a1q, if_pos hlt]
  unfold U5; rw [if_pos hlt]; have b1 : List.length (s.drop (F8 61 s + 1)) < 1000000 := by simp; omega
  have b2 : List.length (s.take (F8 61 s)) < 1000000 := by simp; omega
  generalize hj : F8 61 s = j at *; have htk : List.take (List.length s - (j + 1)) (List.drop (j + 1) s) = List.drop (j + 1) s := ttl (by simp); have i0 : ¬ (j : Int) < 0 := (by omega); have i1 : (0 : Int) ≤ (j : Int) + 1 := (by omega); have j1 : ((j : Int) + 1).toNat = j + 1 := (by omega); have c1 := b6c (s.drop (j + 1)) b1; have c2 := a8X (s.take j) b2; have t1 := a2j (s.drop (j + 1)); have t2 := a2j (s.take j); have c3 := b9g (I7 (s.drop (j + 1))) (by omega); have c4 := a9G (I7 (s.take j)) (by omega); have hvl := a5X _ (I7 (s.drop (j + 1))) (Nat.le_refl _); simp -implicitDefEqProofs [hx, i0, i1, j1, htk]; (repeat refine ai (by omega) ?_); refine A3 c1 ?_; simp -implicitDefEqProofs; refine A3 c3 ?_; generalize I7 (s.drop (j + 1)) = T at *; cases hv : P1 T with
  | none =>
    simp -implicitDefEqProofs [a5k, hv]; (repeat refine ai (by omega) ?_); refine A3 c2 ?_; generalize I7 (s.take j) = K at *; simp -implicitDefEqProofs; simp [O9]
  | some v =>
    have hv2 := hvl v hv; have c5 := a8l v (by omega); rw [a8a] at c5; simp -implicitDefEqProofs [a5k, hv]; (repeat refine ai (by omega) ?_); refine A3 c2 ?_; generalize I7 (s.take j) = K at *; simp -implicitDefEqProofs; refine A3 c4 ?_; by_cases hn : T5 K = true
    · simp -implicitDefEqProofs [hn]; refine A3 c5 ?_; by_cases hc : S4 v = true
      · simp -implicitDefEqProofs [hc]; simp [O9]
      · simp -implicitDefEqProofs [hc]; simp [O9]
    · simp -implicitDefEqProofs [hn]; simp [O9]
theorem b4c : ∀ (n : Nat) (s : Str), s.length ≤ n → (P7 s).length ≤ s.length + 1 ∧ ∀ p ∈ P7 s, p.length ≤ s.length := by
  intro n
  induction n with
  | zero =>
    intro s hn; have : s = [] := List.length_eq_zero_iff.1 (by omega); subst this; rw [a3m (by simp)]; simp
  | succ n ih =>
    intro s hn; by_cases h : F8 44 s < s.length
    · rw [a6S h]; obtain ⟨h1, h2⟩ := ih (s.drop (F8 44 s + 1)) (by simp only [List.length_drop]; omega); simp only [List.length_drop] at h1 h2; refine ⟨by simp only [List.length_cons]; omega, fun p hp => ?_⟩; rcases List.mem_cons.1 hp with rfl | hp
      · simp only [List.length_take]; omega
      · have := h2 p hp; omega
    · rw [a3m h]; simp
theorem b5Z {out : List F9} {ps : List Str} {k : Nat} (h : k < ps.length) : Q5 out (ps.drop k) = if (U5 ps[k]).2 = 0 then Q5 (out ++ [(U5 ps[k]).1]) (ps.drop (k + 1)) else ([], (U5 ps[k]).2) := by
  rw [a2t h]; rfl
theorem b2s (s : Str) (hs : List.length s < 900000) : Ctr prog 132 [.d (.str s)] (.tup [.d (K3 (E5 s).1), .d (.int .i64 (E5 s).2)]) := by
  refine N7 (rv := .tmp 2) (rs := [.tmp 3]) (r := .d (K3 (E5 s).1)) (ys := [.d (.int .i64 (E5 s).2)]) (fun _ => false) (by kernel_rfl) func132 (by kernel_rfl) rfl rfl (by simp) (nbl rfl) (by kernel_rfl) rfl rfl ?_; by_cases hnil : s = []
  · simp -implicitDefEqProofs [hnil, E5, K3]
  have hP : E5 s = Q5 [] (P7 s) := by rw [E5, if_neg hnil]
  have c1 := b7R s (by omega); obtain ⟨b1, b2⟩ := b4c _ s (Nat.le_refl _); rw [hP]; generalize P7 s = ps at *; obtain ⟨R, hR⟩ : ∃ R, Q5 [] ps = R := ⟨_, rfl⟩; rw [hR]; simp -implicitDefEqProofs [hnil]; refine A3 c1 ?_; simp -implicitDefEqProofs; refine H3 ps.length (fun k τ => τ 12 = .own false 9 (ps.map .str) ∧ τ 13 = .d (.int .i64 ps.length) ∧ τ 14 = .d (.int .i64 k) ∧ ∃ out : List F9, out.length = k ∧ τ 4 = .own false 121 (out.map O9) ∧ Q5 out (ps.drop k) = R) ?_ ?_
  · exact ⟨by simp, by simp, by simp, [], rfl, by simp, by simpa using hR⟩
  rintro k τ hk ⟨h12, h13, h14, out, ho, h4, hI⟩; by_cases hlt : k < ps.length
  · have hlt' : (k : Int) < ps.length := (by omega); rw [b5Z hlt] at hI; have hb := b2 _ (gmm hlt); have c2 := c1s ps[k] (by omega); simp -implicitDefEqProofs [h12, h13, h14, h4, hlt, hlt']; refine A3 c2 ?_; generalize U5 ps[k] = C at *; obtain ⟨⟨n, v⟩, e⟩ := C; by_cases he : e = 0
    · rw [if_pos he] at hI; simp -implicitDefEqProofs [h12, h13, h14, h4, hlt, hlt', he, O9]; (repeat refine ai (by omega) ?_); exact E8 hlt ⟨by simp [h12], by simp [h13], by simp, out ++ [(n, v)], by simp [ho], by simp [O9], hI⟩
    · rw [if_neg he] at hI; subst hI; simp -implicitDefEqProofs [h12, h13, h14, h4, hlt, hlt', he, O9]; simp [K3]
  · have hlt' : ¬ (k : Int) < ps.length := (by omega); rw [List.drop_eq_nil_of_le (by omega), Q5] at hI; by_cases h8 : 8 < out.length
    · rw [if_pos h8] at hI; subst hI; have h8' : (8 : Int) < out.length := (by omega); simp -implicitDefEqProofs [h12, h13, h14, h4, hlt, hlt', h8', K3]; try omega
    · rw [if_neg h8] at hI; subst hI; have h8' : ¬ (8 : Int) < out.length := (by omega); simp -implicitDefEqProofs [h12, h13, h14, h4, hlt, hlt', h8', K3]; try omega
end Go.Proofs.Tz