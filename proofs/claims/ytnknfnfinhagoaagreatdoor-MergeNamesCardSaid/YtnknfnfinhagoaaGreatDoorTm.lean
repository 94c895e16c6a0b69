/-
  What the functions that the statements about merged states reach compute, part 2 of 6, for data of bounded size (each theorem states its bound).
-/import Derived.Test.YtnknfnfinhagoaaGreatDoorTl
open Go.Proofs.Tryz
set_option linter.unusedSimpArgs false
set_option linter.unusedVariables false
set_option maxRecDepth 100000
set_option maxHeartbeats 4000000
namespace Go.Proofs.Tz
open Go.Vw Go.RowKit Go.Proofs
theorem a4M (c : Csn) : Ctr prog 36 [.d (B8 c)] (.d (.str (Q8 c))) := by
  refine fv (fun _ => false) func36 (by kernel_rfl) rfl rfl rfl rfl rfl ?_; have c0 := a7F c; obtain ⟨t, s, r⟩ := c; unfold Q8; by_cases hv : U7 (t, s, r) = true
  · have hv' := b7E.1 hv; simp only at hv'; rw [hv] at c0; rw [if_pos hv]; obtain ⟨t', rfl⟩ := Int.eq_ofNat_of_zero_le hv'.1; obtain ⟨s', rfl⟩ := Int.eq_ofNat_of_zero_le hv'.2.2.1; obtain ⟨r', rfl⟩ := Int.eq_ofNat_of_zero_le hv'.2.2.2.2.1; have c1 := b3R t' 11 (by omega) (by omega); have c2 := b3R s' 8 (by omega) (by omega); have c3 := b3R r' 1 (by omega) (by omega); have l1 := a4b 11 t'; have l2 := a4b 8 s'; have l3 := a4b 1 r'; simp only [Int.ofNat_eq_natCast, Int.toNat_natCast]; generalize a0p t' 11 = A at *; generalize a0p s' 8 = B at *; generalize a0p r' 1 = C at *; simp only [B8] at c0; simp -implicitDefEqProofs [B8]; refine A1 c0 ?_; simp -implicitDefEqProofs; refine F0 c1 ?_; simp -implicitDefEqProofs; (repeat refine ai (by omega) ?_); refine F0 c2 ?_; simp -implicitDefEqProofs; (repeat refine ai (by omega) ?_); refine F0 c3 ?_; simp -implicitDefEqProofs; repeat refine ai (by omega) ?_
    first | done | omega
  · have hv' : U7 (t, s, r) = false := (by simpa using hv); rw [hv'] at c0; rw [if_neg hv]; simp only [B8] at c0; simp -implicitDefEqProofs [B8]; refine A1 c0 ?_; simp -implicitDefEqProofs
theorem b5x (s : Str) (hs : List.length s < 1000000) : Ctr prog 53 [.d (.str s)] (.tup [.d (B8 (a0J s).1), .d (.int .i64 (a0J s).2)]) := by
  refine H1 (rv := .cell 2 32) (rs := [.tmp 3]) (r := .d (B8 (a0J s).1)) (ys := [.d (.int .i64 (a0J s).2)]) (fun i => i == 9000003) (by kernel_rfl) func53 (by kernel_rfl) rfl rfl (by simp) (nbl rfl) (by kernel_rfl) rfl rfl ?_; obtain ⟨R, hR⟩ : ∃ R, a0J s = R := ⟨_, rfl⟩; rw [hR]; unfold a0J at hR; by_cases hl : s.length = 22
  case neg =>
    have hl' : ¬ (s.length : Int) = 22 := (by omega); rw [if_pos (.inl hl)] at hR; subst hR; simp -implicitDefEqProofs [hl', B8]
  have g11 := List.getElem?_eq_getElem (show 11 < s.length by omega); have g20 := List.getElem?_eq_getElem (show 20 < s.length by omega); generalize hx11 : s[11]'(by omega) = x11 at *; generalize hx20 : s[20]'(by omega) = x20 at *; by_cases h1 : x11 = 45
  case neg =>
    have h1' : ¬ (x11.toNat : Int) = 45 := fun e => h1 (UInt8.toNat_inj.1 (show x11.toNat = (45 : UInt8).toNat by simp; omega))
    rw [if_pos (.inr (.inl (by rw [g11]; simpa using h1)))] at hR; subst hR; simp -implicitDefEqProofs [hl, hx11, h1', B8]
  by_cases h2 : x20 = 45
  case neg =>
    have h2' : ¬ (x20.toNat : Int) = 45 := fun e => h2 (UInt8.toNat_inj.1 (show x20.toNat = (45 : UInt8).toNat by simp; omega))
    rw [if_pos (.inr (.inr (by rw [g20]; simpa using h2)))] at hR; subst hR; simp -implicitDefEqProofs [hl, hx11, hx20, h1, h2', B8]
  subst h1 h2; rw [if_neg (by rw [g11, g20]; simp [hl])] at hR; have c1 := a8b (s.take 11) (by simp; omega); have c2 := a8b ((s.take 20).drop 12) (by simp; omega); have c3 := a8b (s.drop 21) (by simp; omega); have c4 := a7F (a4k s); obtain ⟨a, ha⟩ : ∃ a, a4k s = a := ⟨_, rfl⟩; have ha' := ha; unfold a4k at ha'; rw [ha] at hR c4; obtain ⟨p, q, r⟩ := a; simp only [Prod.mk.injEq] at ha'; obtain ⟨e1, e2, e3⟩ := ha'; rw [e1] at c1; rw [e2] at c2; rw [e3] at c3; rw [List.drop_take] at c2; rw [show s.drop 21 = (s.drop 21).take 1 from (ttl (by simp; omega)).symm] at c3; simp only at hR; simp only [B8] at c4; by_cases hp : p < 0
  · rw [if_pos (.inl hp)] at hR; subst hR; simp -implicitDefEqProofs [hl, hx11, hx20, B8]; refine F0 c1 ?_; simp -implicitDefEqProofs [hl]; refine F0 c2 ?_; simp -implicitDefEqProofs [hl]; refine F0 c3 ?_; simp -implicitDefEqProofs [hp]
  by_cases hq : q < 0
  · rw [if_pos (.inr (.inl hq))] at hR; subst hR; simp -implicitDefEqProofs [hl, hx11, hx20, B8]; refine F0 c1 ?_; simp -implicitDefEqProofs [hl]; refine F0 c2 ?_; simp -implicitDefEqProofs [hl]; refine F0 c3 ?_; simp -implicitDefEqProofs [hp, hq]
  by_cases hr : r < 0
  · rw [if_pos (.inr (.inr hr))] at hR; subst hR; simp -implicitDefEqProofs [hl, hx11, hx20, B8]; refine F0 c1 ?_; simp -implicitDefEqProofs [hl]; refine F0 c2 ?_; simp -implicitDefEqProofs [hl]; refine F0 c3 ?_; simp -implicitDefEqProofs [hp, hq, hr]
  rw [if_neg (by omega)] at hR; by_cases hv : U7 (p, q, r) = true
  · rw [if_neg (by rw [hv]; simp)] at hR; subst hR; rw [hv] at c4; simp -implicitDefEqProofs [hl, hx11, hx20, B8]; refine F0 c1 ?_; simp -implicitDefEqProofs [hl]; refine F0 c2 ?_; simp -implicitDefEqProofs [hl]; refine F0 c3 ?_; simp -implicitDefEqProofs [hp, hq, hr]; refine A1 c4 ?_; simp -implicitDefEqProofs
  · have hv' : U7 (p, q, r) = false := (by simpa using hv); rw [if_pos hv'] at hR; subst hR; rw [hv'] at c4; simp -implicitDefEqProofs [hl, hx11, hx20, B8]; refine F0 c1 ?_; simp -implicitDefEqProofs [hl]; refine F0 c2 ?_; simp -implicitDefEqProofs [hl]; refine F0 c3 ?_; simp -implicitDefEqProofs [hp, hq, hr]; refine A1 c4 ?_; simp -implicitDefEqProofs
end Go.Proofs.Tz
namespace Go.Proofs.Tz
open Go.Vw
theorem b4x (s : Str) : Ctr prog 88 [.d (.str s)] (.d (.bool (J7 s))) := by
  refine fv (fun _ => false) func88 (by kernel_rfl) rfl rfl rfl rfl rfl ?_; by_cases hs : s = []
  · simp -implicitDefEqProofs [J7, hs]
  have hpos : 0 < List.length s := by
    cases s with
    | nil => exact absurd rfl hs
    | cons => simp
  have h1 : ¬ ((List.length s : Int) < 1) := (by omega); have hh : s.head? = some s[0] := (by simp [List.head?_eq_getElem?, hpos]); have hl : s.getLast? = some s[List.length s - 1] := by rw [List.getLast?_eq_getElem?, List.getElem?_eq_getElem (by omega)]
  have hi : 0 ≤ (List.length s : Int) - 1 := (by omega); have hi2 : ((List.length s : Int) - 1).toNat = List.length s - 1 := (by omega); have hi3 : List.length s - 1 < List.length s := (by omega); have hi4 : -9223372036854775808 ≤ (List.length s : Int) - 1 := (by omega); by_cases h2 : 256 < (List.length s : Int)
  · have : ¬ List.length s ≤ 256 := (by omega); simp -implicitDefEqProofs [J7, h1, h2, this]
  have h2' : List.length s ≤ 256 := (by omega); have h1' : 1 ≤ List.length s := hpos; have hi5 : (List.length s : Int) - 1 ≤ 9223372036854775807 := (by omega); by_cases ha : (s[0].toNat : Int) = 32
  · have : s[0] = 32 := by apply UInt8.toNat_inj.1; rw [show (32 : UInt8).toNat = 32 from rfl]; omega
    simp -implicitDefEqProofs [J7, h1, h2, hpos, ha, hh, this]
  have ha' : ¬ s[0] = 32 := fun e => ha (by rw [e]; rfl)
  by_cases hb : (s[List.length s - 1].toNat : Int) = 32
  · have : s[List.length s - 1] = 32 := by apply UInt8.toNat_inj.1; rw [show (32 : UInt8).toNat = 32 from rfl]; omega
    simp -implicitDefEqProofs [J7, h1, h2, hpos, ha, hh, hl, hb, hi, hi2, hi3, hi4, hi5, this]
    all_goals omega
  have hb' : ¬ s[List.length s - 1] = 32 := fun e => hb (by rw [e]; rfl)
  simp -implicitDefEqProofs [h1, h2, hpos, ha, hb, hi, hi2, hi3, hi4, hi5]; refine ⟨by omega, ?_⟩; refine H2 (List.length s) (fun k τ => τ 0 = .d (.str s) ∧ τ 3 = .d (.int .i64 k) ∧ ∀ x ∈ s.take k, V1 x = true) (by simp) ?_; rintro k τ hk ⟨h0, h3, hall⟩; by_cases hlt : k < List.length s
  · by_cases e1 : (s[k].toNat : Int) < 32
    · have e1' : ¬ 32 ≤ (s[k].toNat : Int) := (by omega); simp -implicitDefEqProofs [h0, h3, hlt, e1]; simp -implicitDefEqProofs [J7, a3D hlt (show V1 s[k] = false by simp [V1, e1'])]
    · by_cases e2 : 126 < (s[k].toNat : Int)
      · have e2' : ¬ (s[k].toNat : Int) ≤ 126 := (by omega); simp -implicitDefEqProofs [h0, h3, hlt, e1, e2]; simp -implicitDefEqProofs [J7, a3D hlt (show V1 s[k] = false by simp [V1, e2'])]
      · have e1' : 32 ≤ (s[k].toNat : Int) := (by omega); have e2' : (s[k].toNat : Int) ≤ 126 := (by omega); simp -implicitDefEqProofs [h0, h3, hlt, e1, e2]; refine ⟨by omega, D7 hlt ⟨by simp [h0], by simp, ?_⟩⟩; exact a2x hlt hall (by simp [V1, e1', e2'])
  · simp -implicitDefEqProofs [h0, h3, hlt]; rw [ttl (by omega)] at hall; simp -implicitDefEqProofs [J7, h1', h2', hh, hl, ha', hb']; exact hall
def a3k (s : Str) (r : Bool × List Str) (x : Str) : Bool × List Str :=
  (r.1 || !Op.bytesLess x s, r.2 ++ (if r.1 = false ∧ Op.bytesLess x s = false then [s] else []) ++ (if x = s then [] else [x]))
def c4K (s : Str) (l : List Str) : Bool × List Str := l.foldl (a3k s) (false, [])
def ins (l : List Str) (s : Str) : List Str := (c4K s l).2 ++ (if (c4K s l).1 then [] else [s])
abbrev Att := Str × List Str
def att (a : Att) : D := .agg [.str a.1, B6 a.2]
def a5W (l : List Att) : D := .sl (l.map att)
def d0m (l : List Att) : Prop := l.length < 1000000 ∧ ∀ a ∈ l, List.length a.1 < 1000000 ∧ a.2.length < 1000000
def a5c (ns : List Str) (a : Att) : List Str := if a.2 = [] then ns else ins ns (D6 a.1)
def b4E (l : List Att) : List Str := l.foldl a5c []
def a5Y (n : Str) (vs : List Str) (a : Att) : List Str := if D6 a.1 = n then a.2.foldl ins vs else vs
def a6C (l : List Att) (n : Str) : List Str := l.foldl (a5Y n) []
def O0 (l : List Att) : List Att := (b4E l).map fun n => (n, a6C l n)
def M9 (l : List Att) : Nat := (l.map (·.2.length)).sum
def b6H (l : List Att) : Prop := d0m l ∧ M9 l < 500000
theorem b7a (l : List Att) (k : Nat) (h : k < l.length) : M9 (l.take k) + l[k].2.length ≤ M9 l := by
  have e : M9 l = M9 (l.take k) + (l[k].2.length + M9 (l.drop (k + 1))) := by
    conv => lhs; rw [← List.take_append_drop k l, List.drop_eq_getElem_cons h]
    simp only [M9, List.map_append, List.map_cons, List.sum_append, List.sum_cons]
  all_goals omega
theorem b5t (c : UInt8) : Ctr prog 109 [.d (u8 c)] (.d (.bool (decide (65 ≤ (c.toNat : Int)) && decide ((c.toNat : Int) ≤ 90)))) := by
  refine fv (fun _ => false) func109 (by kernel_rfl) rfl rfl rfl rfl rfl ?_; by_cases h1 : 65 ≤ (c.toNat : Int) <;> simp [u8, h1]
theorem b0v (c : UInt8) : Ctr prog 107 [.d (u8 c)] (.d (.bool (a0e c))) := by
  refine fv (fun _ => false) func107 (by kernel_rfl) rfl rfl rfl rfl rfl ?_; simp -implicitDefEqProofs; refine A1 (b5t c) ?_; by_cases h1 : 97 ≤ (c.toNat : Int) <;> by_cases h2 : (c.toNat : Int) ≤ 122 <;> by_cases h3 : 65 ≤ (c.toNat : Int) <;> by_cases h4 : (c.toNat : Int) ≤ 90 <;> simp -implicitDefEqProofs [u8, a0e, h1, h2, h3, h4]
theorem b9d (c : UInt8) : Ctr prog 108 [.d (u8 c)] (.d (.bool (a2p c))) := by
  refine fv (fun _ => false) func108 (by kernel_rfl) rfl rfl rfl rfl rfl ?_; by_cases h1 : 48 ≤ (c.toNat : Int) <;> simp [u8, a2p, h1]
theorem b8f (c : UInt8) : Ctr prog 106 [.d (u8 c)] (.d (.bool (W5 c))) := by
  refine fv (fun _ => false) func106 (by kernel_rfl) rfl rfl rfl rfl rfl ?_; simp -implicitDefEqProofs [u8]; refine A1 (b0v c) ?_; by_cases h1 : a0e c = true
  · simp -implicitDefEqProofs [h1, W5]
  · simp -implicitDefEqProofs [h1]; refine A1 (b9d c) ?_; by_cases h2 : a2p c = true <;> by_cases h3 : (c.toNat : Int) = 45 <;> simp [h1, h2, h3, W5]
def c2T (n : Str) : List Att → List Str
  | [] => []
  | a :: l => if a.1 = n then a.2 else c2T n l
def c5p (l : List Att) (name : Str) : List Str := c2T (D6 name) (O0 l)
theorem c3d (s : Str) (hs : List.length s < 1000000) : Ctr prog 105 [.d (.str s), .d (.clo 106 [])] (.d (.bool (s.all W5 && decide (s ≠ []) && decide (s.length ≤ 64)))) := by
  refine fv (fun _ => false) func105 (by kernel_rfl) rfl rfl rfl rfl rfl ?_; simp -implicitDefEqProofs; refine H2 (List.length s) (fun k τ => τ 0 = .d (.str s) ∧ τ 1 = .d (.clo 106 []) ∧ τ 7 = .d (.int .i64 (List.length s)) ∧ τ 8 = .d (.int .i64 k) ∧ ∀ x ∈ s.take k, W5 x = true) (by simp) ?_; rintro k τ hk ⟨h0, h1, h7, h8, ha⟩; by_cases hlt : k < List.length s
  · simp -implicitDefEqProofs [h0, h1, h7, h8, hlt]; refine A1 (b8f s[k]) ?_; by_cases e1 : W5 s[k] = true
    · simp -implicitDefEqProofs [h0, h1, h7, h8, hlt, e1]; exact ⟨by omega, D7 hlt ⟨by simp [h0], by simp [h1], by simp [h7], by simp, a2x hlt ha e1⟩⟩
    · simp -implicitDefEqProofs [h0, h1, h7, h8, hlt, e1]; intro h; exact absurd (h _ (gmm hlt)) e1
  · rw [ttl (by omega)] at ha; have hall : List.all s W5 = true := (by simpa using ha); by_cases e2 : s = []
    · simp -implicitDefEqProofs [h0, h1, h7, h8, hlt, e2]
    · simp -implicitDefEqProofs [h0, h1, h7, h8, hlt, e2, hall]
      all_goals omega
theorem a9j (s : Str) (hs : List.length s < 1000000) : Ctr prog 55 [.d (.str s)] (.d (.bool (M0 s))) := by
  refine fv (fun _ => false) func55 (by kernel_rfl) rfl rfl rfl rfl rfl ?_; simp -implicitDefEqProofs; refine A1 (c3d s hs) ?_; by_cases e : (s.all W5 && decide (s ≠ []) && decide (s.length ≤ 64)) = true
  · have e0 := e; simp only [Bool.and_eq_true, decide_eq_true_eq] at e; obtain ⟨⟨e1, e2⟩, e3⟩ := e; obtain ⟨c, t, rfl⟩ := List.exists_cons_of_ne_nil e2; simp only [e0]; simp -implicitDefEqProofs; refine A1 (b0v c) ?_; have e4 : (List.length (c :: t)) ≤ 64 := e3; simp -implicitDefEqProofs [M0, e1, e4]; intro _; simpa using e4
  · rw [Bool.not_eq_true] at e; simp only [e]; simp -implicitDefEqProofs [M0]; intro h1 h2 _; have hne : s ≠ [] := by
      rintro rfl; simp at h1
    simpa [hne, h2] using e
def fil (n : Str) (s : List Att) : List Att := s.filter fun a => !decide (a.1 = n)
def b3S (l : List Att) (name : Str) : List Att := fil (D6 name) (O0 l)
def a5M (l : List Att) (name : Str) (v : List Str) : List Att × Int :=
  if 32 < (O0 (b3S l name ++ [(name, v)])).length ∨ 16 < v.length then ([], 3) else (O0 (b3S l name ++ [(name, v)]), 0)
def a1Y {α : Type} (p : α → Bool) : Nat → List α → Int
  | _, [] => -1
  | k, x :: l => if p x = true then k else a1Y p (k + 1) l
theorem c0F {α : Type} {p : α → Bool} {l : List α} {k : Nat} (h : k < l.length) : a1Y p k (l.drop k) = if p l[k] = true then (k : Int) else a1Y p (k + 1) (l.drop (k + 1)) := by
  rw [List.drop_eq_getElem_cons h, a1Y]
end Go.Proofs.Tz
namespace Go.Proofs.Tz
open Go.Vw Go.RowKit Go.Proofs
def b1l {α : Type} (p : α → Bool) (l : List α) (k : Nat) : Bool := (l.take k).any p
end Go.Proofs.Tz
namespace Go.Proofs.Tz
open Go.Vw
theorem c0S {c : UInt8} (h : ¬ (65 ≤ (c.toNat : Int) ∧ (c.toNat : Int) ≤ 90)) : a2y c = c := if_neg h
def a1K (s : Str) (k : Nat) : List D := ((D6 (s.take k)) ++ s.drop k).map u8
theorem b8Z (s : Str) (k : Nat) (h : k ≤ List.length s) : (a1K s k).length = List.length s := by simp [a1K, D6]; omega
theorem b9N (s : Str) (k : Nat) (h : k < List.length s) : (a1K s k)[k]? = some (u8 s[k]) := by
  have hl : (D6 (s.take k)).length = k := by simp [D6]; omega
  simp only [a1K, List.getElem?_map]; rw [List.getElem?_append_right (by omega), hl, Nat.sub_self]; simp [h]
theorem b9J (s : Str) (k : Nat) (h : k < List.length s) : (a1K s k).set k (u8 (a2y s[k])) = a1K s (k + 1) := by
  have hl : (D6 (s.take k)).length = k := by simp [D6]; omega
  simp only [a1K, ← List.map_set]; rw [List.set_append_right _ _ (by omega), hl, Nat.sub_self, List.drop_eq_getElem_cons h, List.set_cons_zero, J0 h]; simp only [D6, List.map_append, List.map_cons, List.map_nil, List.append_assoc, List.singleton_append]
theorem a2l (s : Str) (hs : List.length s < 1000000) : Ctr prog 56 [.d (.str s)] (.d (.str (D6 s))) := by
  refine fv (fun i => decide (i < 1000000)) func56 (by kernel_rfl) rfl rfl rfl rfl rfl ?_; simp -implicitDefEqProofs; refine ⟨by omega, ?_⟩; refine H2 (List.length s) (fun k τ => τ 9 = .d (.int .i64 k) ∧ τ 8 = .d (.int .i64 (List.length s)) ∧ τ 3 = .own true 100005 (a1K s k)) (by simp [a1K, D6, B4, u8]) ?_; rintro k τ hk ⟨h9, h8, h3⟩; have hlen := b8Z s k hk; by_cases hlt : k < List.length s
  · have hg := b9N s k hlt; have hset := b9J s k hlt; generalize a1K s k = M at *; have hlt2 : k < M.length := (by omega); have hg2 : M[k] = u8 s[k] := (List.getElem?_eq_some_iff.1 hg).2; simp -implicitDefEqProofs [h9, h8, h3, hlt, hlt2, hg2, u8]; refine A1 (b5t _) ?_; by_cases h1 : 65 ≤ (s[k].toNat : Int) ∧ (s[k].toNat : Int) ≤ 90
    · simp -implicitDefEqProofs [h9, h8, h3, hlt, hlt2, hg2, u8, h1.1, h1.2]; have e : u8 (a2y s[k]) = .int .u8 ((s[k].toNat : Int) + 32) := by
        simp only [u8, a3m _ h1.1 h1.2]; congr 1; omega
      rw [e] at hset; exact ⟨by omega, by omega, D7 hlt ⟨by simp, by simp [h8], by simp [hset]⟩⟩
    · have hb : (decide (65 ≤ (s[k].toNat : Int)) && decide ((s[k].toNat : Int) ≤ 90)) = false := (by simpa using h1); simp -implicitDefEqProofs [h9, h8, h3, hlt, hlt2, hg2, u8, hb]; rw [c0S h1, ← hg2, List.set_getElem_self] at hset; exact ⟨by omega, D7 hlt ⟨by simp, by simp [h8], by simp [h3, hset]⟩⟩
  · simp -implicitDefEqProofs [h9, h8, h3, hlt]; have e : a1K s k = B4 (D6 s) := by
      have : k = List.length s := (by omega); subst this; simp [a1K, B4, u8]
    simp -implicitDefEqProofs [e, h3]
theorem c5a {x c : UInt8} (h : ¬ x = c) : ¬ ((x.toNat : Int) = c.toNat) := fun e => h (UInt8.toNat_inj.1 (by omega))
def S5 (c : UInt8) (s : Str) : Str := s.dropWhile fun x => decide (x = c)
def H8 (c : UInt8) (s : Str) : Str := (s.reverse.dropWhile fun x => decide (x = c)).reverse
theorem c1a (s : Str) (c : UInt8) : Ctr prog 191 [.d (.str s), .d (u8 c)] (.d (.str (S5 c s))) := by
  refine fv (fun _ => false) func191 (by kernel_rfl) rfl rfl rfl rfl rfl ?_; simp -implicitDefEqProofs [u8]; refine a3p (fun n τ => ∃ t : Str, n = t.length ∧ τ 0 = .d (.str t) ∧ τ 1 = .d (.int .u8 c.toNat) ∧ S5 c t = S5 c s) s.length ⟨s, rfl, by simp, by simp, rfl⟩ ?_; rintro n τ ⟨t, rfl, h0, h1, ht⟩; cases t with
  | nil =>
    simp -implicitDefEqProofs [h0, h1]; rw [← ht]; rfl
  | cons x t =>
    by_cases hx : x = c
    · subst hx; simp -implicitDefEqProofs [h0, h1]; exact ⟨_, by omega, t, rfl, rfl, by rw [← ht, S5, S5, List.dropWhile_cons, if_pos (by simp)]⟩
    · have := c5a hx; simp -implicitDefEqProofs [h0, h1, this]; rw [← ht, S5, List.dropWhile_cons, if_neg (by simp [hx])]
theorem a0M {c : UInt8} {t : Str} (h : 0 < List.length t) : H8 c t = if t[List.length t - 1] = c then H8 c (t.take (List.length t - 1)) else t := by
  have e : t = t.take (List.length t - 1) ++ [t[List.length t - 1]] := by
    have := J0 (l := t) (k := List.length t - 1) (by omega); rw [show List.length t - 1 + 1 = List.length t by omega, List.take_length] at this; exact this
  conv => lhs; rw [e]
  rw [H8, List.reverse_append, List.reverse_singleton, List.singleton_append, List.dropWhile_cons]; by_cases hx : t[List.length t - 1] = c
  · rw [if_pos (by simpa using hx), if_pos hx, H8]
  · rw [if_neg (by simpa using hx), if_neg hx, List.reverse_cons, List.reverse_reverse]; exact e.symm
theorem c0Y (s : Str) (c : UInt8) (hs : List.length s < 1000000) : Ctr prog 192 [.d (.str s), .d (u8 c)] (.d (.str (H8 c s))) := by
  refine fv (fun _ => false) func192 (by kernel_rfl) rfl rfl rfl rfl rfl ?_; simp -implicitDefEqProofs [u8]; refine a3p (fun n τ => ∃ t : Str, n = t.length ∧ τ 0 = .d (.str t) ∧ τ 1 = .d (.int .u8 c.toNat) ∧ List.length t < 1000000 ∧ H8 c t = H8 c s) s.length ⟨s, rfl, by simp, by simp, hs, rfl⟩ ?_; rintro n τ ⟨t, rfl, h0, h1, hl, ht⟩; by_cases hpos : 0 < List.length t
  · have hi : 0 ≤ (List.length t : Int) - 1 := (by omega); have hi2 : ((List.length t : Int) - 1).toNat = List.length t - 1 := (by omega); have hi3 : List.length t - 1 < List.length t := (by omega); have hi4 : -9223372036854775808 ≤ (List.length t : Int) - 1 := (by omega); have hi5 : (List.length t : Int) - 1 ≤ 9223372036854775807 := (by omega); have hi6 : 1 ≤ (List.length t : Int) := (by omega); have hz : ¬ t = [] := fun e => by subst e; simp at hpos
    rw [a0M hpos] at ht; by_cases hx : t[List.length t - 1] = c
    · rw [if_pos hx] at ht; simp -implicitDefEqProofs [h0, h1, hpos, hi, hi2, hi3, hi4, hi5, hi6, hx, hz]; exact ⟨List.length t - 1, by omega, t.take (List.length t - 1), by rw [List.length_take]; omega, rfl, by rw [List.length_take]; omega, ht⟩
    · have := c5a hx; rw [if_neg hx] at ht; simp -implicitDefEqProofs [h0, h1, hpos, hi, hi2, hi3, hi4, hi5, hi6, this, hz]; exact ht
  · obtain rfl : t = [] := List.eq_nil_of_length_eq_zero (by omega); simp -implicitDefEqProofs [h0, h1]; rw [← ht]; rfl
def E6 (s : Str) : Str := S5 32 (H8 32 s)
theorem b7Y (s : Str) (hs : List.length s < 1000000) : Ctr prog 149 [.d (.str s), .d (.str [32])] (.d (.str (E6 s))) := by
  refine fv (fun _ => false) func149 (by kernel_rfl) rfl rfl rfl rfl rfl ?_; by_cases hz : s = []
  · subst hz; simp -implicitDefEqProofs; try rfl
  simp -implicitDefEqProofs [hz]; have h1 : Ctr prog 192 [.d (.str s), .d (.int .u8 32)] (.d (.str (H8 32 s))) := c0Y s 32 hs; have h2 : Ctr prog 191 [.d (.str (H8 32 s)), .d (.int .u8 32)] (.d (.str (E6 s))) := c1a (H8 32 s) 32; refine F0 h1 ?_; simp -implicitDefEqProofs [hz]; refine F0 h2 ?_; simp -implicitDefEqProofs [hz]
theorem a8C (s : Str) (hs : List.length s < 1000000) : Ctr prog 110 [.d (.str s)] (.d (.str (E6 s))) := by
  refine fv (fun _ => false) func110 (by kernel_rfl) rfl rfl rfl rfl rfl ?_; simp -implicitDefEqProofs; refine A1 (b7Y s hs) ?_; simp -implicitDefEqProofs
def a2e (s : Str) : Bool := s.all V1 && decide (s ≠ []) && decide (List.length s ≤ 256) && decide (E6 s = s)
theorem c5s {s : Str} {k : Nat} (h : k < List.length s) (hc : s[k].toNat < 128) : Go.Utf8.decode ⟨s.toArray⟩ k = (s[k].toNat, 1) := by
  have hb : k < (⟨s.toArray⟩ : ByteArray).size := (by simpa [ByteArray.size] using h); have e : (⟨s.toArray⟩ : ByteArray)[k]'hb = s[k] := rfl; have := decode_ascii ⟨s.toArray⟩ k hb (by rw [e]; exact hc); rw [e] at this; exact this
theorem c4P {s : Str} {k : Nat} (h : k < List.length s) (hc : 128 ≤ s[k].toNat) : 128 ≤ (Go.Utf8.decode ⟨s.toArray⟩ k).1 := by
  have hb : k < (⟨s.toArray⟩ : ByteArray).size := (by simpa [ByteArray.size] using h); have e : (⟨s.toArray⟩ : ByteArray)[k]'hb = s[k] := rfl; exact (decode_high ⟨s.toArray⟩ k hb (by rw [e]; exact hc)).1
theorem b0r (c : UInt8) (s : Str) : List.length (S5 c s) ≤ List.length s := (List.dropWhile_sublist _).length_le
theorem b0K (c : UInt8) (s : Str) : List.length (H8 c s) ≤ List.length s := by
  have := (List.dropWhile_sublist (fun x : UInt8 => decide (x = c)) (l := s.reverse)).length_le; simpa [H8] using this
theorem b9M {s : Str} (h : 0 < List.length s) : E6 s = s ↔ s[0] ≠ 32 ∧ s[List.length s - 1] ≠ 32 := by
  constructor
  · intro e; have h1 := b0r 32 (H8 32 s); have h2 := b0K 32 s; have h3 : List.length (E6 s) = List.length s := by rw [e]
    rw [E6] at h3; have hr : s[List.length s - 1] ≠ 32 := by
      intro h4; rw [a0M h, if_pos h4] at h3 h1; have h5 := b0K 32 (s.take (List.length s - 1)); rw [List.length_take] at h5; omega
    refine ⟨fun h4 => ?_, hr⟩; rw [E6, a0M h, if_neg hr] at e; cases s with
    | nil => simp at h
    | cons x t =>
      simp only [List.getElem_cons_zero] at h4; rw [S5, List.dropWhile_cons, if_pos (by simp [h4])] at e; have := b0r 32 t; rw [S5, e, List.length_cons] at this; omega
  · rintro ⟨h1, h2⟩; rw [E6, a0M h, if_neg h2]; cases s with
    | nil => rfl
    | cons x t => rw [S5, List.dropWhile_cons, if_neg (by simpa using h1)]
theorem a7J (s : Str) : a2e s = J7 s := by
  by_cases h : 0 < List.length s
  · have hne : s ≠ [] := fun e => by subst e; simp at h
    have hh : s.head? = some s[0] := (by simp [List.head?_eq_getElem?, h]); have hl : s.getLast? = some s[List.length s - 1] := by rw [List.getLast?_eq_getElem?, List.getElem?_eq_getElem (by omega)]
    rw [Bool.eq_iff_iff]; simp only [a2e, J7, Bool.and_eq_true, decide_eq_true_eq, b9M h, hh, hl, bne_iff_ne, ne_eq, Option.some.injEq]; have : 1 ≤ List.length s := h; constructor
    · rintro ⟨⟨⟨a, b⟩, c⟩, d, e⟩; exact ⟨⟨⟨⟨this, c⟩, d⟩, e⟩, a⟩
    · rintro ⟨⟨⟨⟨_, c⟩, d⟩, e⟩, a⟩; exact ⟨⟨⟨a, hne⟩, c⟩, d, e⟩
  · obtain rfl : s = [] := List.eq_nil_of_length_eq_zero (by omega); rfl
theorem a7G (s : Str) (hs : List.length s < 1000000) : Ctr prog 57 [.d (.str s)] (.d (.bool (a2e s))) := by
  refine fv (fun _ => false) func57 (by kernel_rfl) rfl rfl rfl rfl rfl ?_; simp -implicitDefEqProofs; refine H2 (List.length s) (fun k τ => τ 0 = .d (.str s) ∧ τ 6 = .iter s k ∧ ∀ x ∈ s.take k, V1 x = true) (by simp) ?_; rintro k τ hk ⟨h0, h6, hall⟩; by_cases hlt : k < List.length s
  · by_cases ha : s[k].toNat < 128
    · have hd := c5s hlt ha; by_cases e1 : (s[k].toNat : Int) < 32
      · have e1' : ¬ 32 ≤ (s[k].toNat : Int) := (by omega); simp -implicitDefEqProofs [h0, h6, hlt, hd, e1]; simp [a2e, a3D hlt (show V1 s[k] = false by simp [V1, e1'])]
      · by_cases e2 : 126 < (s[k].toNat : Int)
        · have e2' : ¬ (s[k].toNat : Int) ≤ 126 := (by omega); simp -implicitDefEqProofs [h0, h6, hlt, hd, e1, e2]; simp [a2e, a3D hlt (show V1 s[k] = false by simp [V1, e2'])]
        · have e1' : 32 ≤ (s[k].toNat : Int) := (by omega); have e2' : (s[k].toNat : Int) ≤ 126 := (by omega); simp -implicitDefEqProofs [h0, h6, hlt, hd, e1, e2]; exact D7 hlt ⟨by simp [h0], by simp, a2x hlt hall (by simp [V1, e1', e2'])⟩
    · have hd := c4P hlt (by omega); have e1 : ¬ ((Go.Utf8.decode ⟨s.toArray⟩ k).1 : Int) < 32 := (by omega); have e2 : 126 < ((Go.Utf8.decode ⟨s.toArray⟩ k).1 : Int) := (by omega); have e2' : ¬ (s[k].toNat : Int) ≤ 126 := (by omega); simp -implicitDefEqProofs [h0, h6, hlt, e1, e2]; simp [a2e, a3D hlt (show V1 s[k] = false by simp [V1, e2'])]
  · rw [ttl (by omega)] at hall; have hall' : s.all V1 = true := List.all_eq_true.2 hall; by_cases hz : s = []
    · subst hz; simp -implicitDefEqProofs [h0, h6, a2e]
    · by_cases h2 : (List.length s : Int) ≤ 256
      · have h2' : List.length s ≤ 256 := (by omega); simp -implicitDefEqProofs [h0, h6, hlt, hz, h2]; refine A1 (a8C s hs) ?_; simp -implicitDefEqProofs [h0, h6, hlt, hz, h2, a2e, hall', h2']
      · have h2' : ¬ List.length s ≤ 256 := (by omega); simp -implicitDefEqProofs [h0, h6, hlt, hz, h2, a2e, h2']
end Go.Proofs.Tz
namespace Go.Proofs.Tz
open Go.Vw Go.RowKit Go.Proofs
def O5 (c : UInt8) : Bool := decide (c = 44) || decide (c = 61) || decide (c = 43) || decide (c = 92)
def D2 (c : UInt8) : Str → Nat
  | [] => 0
  | [x] => if x = c then 0 else 1
  | x :: y :: r => if x = c then 0 else if x = 92 then 2 + D2 c r else 1 + D2 c (y :: r)
theorem a9e (c : UInt8) : ∀ (s : Str), D2 c s ≤ s.length
  | [] => by simp [D2]
  | [x] => by simp only [D2]; split <;> simp
  | x :: y :: r => by
    have h1 := a9e c r; have h2 := a9e c (y :: r); simp only [D2]; simp only [List.length_cons] at h2 ⊢; split
    · omega
    · split <;> omega
def a1r : Nat → Str → List Str
  | 0, s => [s]
  | n + 1, s => if D2 44 s < s.length then s.take (D2 44 s) :: a1r n (s.drop (D2 44 s + 1)) else [s]
def N0 (s : Str) : List Str := a1r s.length s
theorem a9Z : ∀ (n m : Nat) (s : Str), s.length ≤ n → s.length ≤ m → a1r n s = a1r m s
  | 0, 0, _, _, _ => rfl
  | 0, m + 1, s, h, _ => by
    have : s = [] := List.length_eq_zero_iff.1 (by omega); subst this; simp [a1r]
  | n + 1, 0, s, _, h => by
    have : s = [] := List.length_eq_zero_iff.1 (by omega); subst this; simp [a1r]
  | n + 1, m + 1, s, h1, h2 => by
    simp only [a1r]; split
    · rw [a9Z n m _ (by simp only [List.length_drop]; omega) (by simp only [List.length_drop]; omega)]
    · rfl
theorem a2c {s : Str} (h : D2 44 s < s.length) : N0 s = s.take (D2 44 s) :: N0 (s.drop (D2 44 s + 1)) := by
  obtain ⟨n, hn⟩ : ∃ n, s.length = n + 1 := ⟨s.length - 1, by omega⟩; rw [N0, hn, a1r, if_pos h, N0, a9Z n _ _ (by simp only [List.length_drop]; omega) (Nat.le_refl _)]
theorem Z9 {s : Str} (h : ¬ D2 44 s < s.length) : N0 s = [s] := by
  rw [N0]; cases s.length with
  | zero => rfl
  | succ n => rw [a1r, if_neg h]
def M6 : Str → Option Str
  | [] => some []
  | [x] => if x = 92 then none else if O5 x = true then none else some [x]
  | x :: y :: r => if x = 92 then (if O5 y = true then (M6 r).map (y :: ·) else none) else if O5 x = true then none else (M6 (y :: r)).map (x :: ·)
def M4 : Str → Option Str
  | [] => some []
  | [x] => if x = 92 then none else if x = 61 ∨ x = 43 then none else some [x]
  | x :: y :: r => if x = 92 then (if O5 y = true then (M4 r).map (y :: ·) else none) else if x = 61 ∨ x = 43 then none else (M4 (y :: r)).map (x :: ·)
def NoU (c : UInt8) : Str → Prop
  | [] => True
  | [x] => x ≠ c
  | x :: y :: r => x ≠ c ∧ if x = 92 then NoU c r else NoU c (y :: r)
theorem a8d : ∀ (s : Str), NoU 44 s → M4 s = M6 s
  | [], _ => rfl
  | [x], h => by
    simp only [NoU] at h; simp only [M4, M6]; by_cases h1 : x = 92
    · simp [h1]
    · simp [h1, O5, h]
  | x :: y :: r, h => by
    simp only [NoU] at h; have i1 := fun e => a8d r e
    have i2 := fun e => a8d (y :: r) e
    simp only [M4, M6]; by_cases h1 : x = 92
    · rw [if_pos h1] at h; simp [h1, i1 h.2]
    · rw [if_neg h1] at h; simp [h1, O5, h.1, i2 h.2]
theorem NoU.take {c : UInt8} : ∀ {s : Str} (n : Nat), NoU c s → NoU c (s.take n)
  | [], n, h => by simpa using h
  | [x], 0, h => by simp [NoU]
  | [x], n + 1, h => by simpa using h
  | x :: y :: r, 0, h => by simp [NoU]
  | x :: y :: r, 1, h => by simp only [NoU] at h; simp [NoU, h.1]
  | x :: y :: r, n + 2, h => by
    simp only [NoU] at h; have e : List.take (n + 2) (x :: y :: r) = x :: y :: List.take n r := rfl; rw [e]; refine ⟨h.1, ?_⟩; by_cases h1 : x = 92
    · rw [if_pos h1] at h ⊢; exact NoU.take n h.2
    · rw [if_neg h1] at h ⊢; exact NoU.take (n + 1) h.2
theorem NoU.tail {c x : UInt8} {s : Str} (h : NoU c (x :: s)) (hx : x ≠ 92) : NoU c s := by
  cases s with
  | nil => simp [NoU]
  | cons y r => simp only [NoU, if_neg hx] at h; exact h.2
theorem NoU.trimL {c : UInt8} : ∀ {s : Str}, NoU c s → NoU c (S5 32 s)
  | [], h => h
  | x :: s, h => by
    rw [S5, List.dropWhile_cons]; split
    · rename_i hx
      have hx' : x = 32 := (by simpa using hx); exact NoU.trimL (h.tail (by rw [hx']; decide))
    · exact h
theorem b5U (c : UInt8) (s : Str) : ∃ n, H8 c s = s.take n := by
  obtain ⟨t, ht⟩ := List.dropWhile_suffix (l := s.reverse) (fun x => decide (x = c)); refine ⟨(H8 c s).length, ?_⟩; have : H8 c s ++ t.reverse = s := by
    rw [H8, ← List.reverse_append, ht, List.reverse_reverse]
  have h2 := congrArg (List.take (H8 c s).length) this; rw [List.take_left' rfl] at h2; exact h2
theorem NoU.trim {c : UInt8} {s : Str} (h : NoU c s) : NoU c (E6 s) := by
  rw [E6]; obtain ⟨n, hn⟩ := b5U 32 s; rw [hn]; exact (h.take n).trimL
theorem NoU.after {c d : UInt8} (hd : d ≠ 92) : ∀ {s : Str}, NoU c s → NoU c (s.drop (D2 d s + 1))
  | [], h => by simpa using h
  | [x], h => by simp only [D2]; split <;> simp [NoU]
  | x :: y :: r, h => by
    simp only [D2]; by_cases h1 : x = d
    · rw [if_pos h1]; exact h.tail (by rw [h1]; exact hd)
    · rw [if_neg h1]; simp only [NoU] at h; by_cases h2 : x = 92
      · rw [if_pos h2] at h ⊢; have e : 2 + D2 d r + 1 = (D2 d r + 1) + 2 := (by omega); rw [e]; exact NoU.after hd h.2
      · rw [if_neg h2] at h ⊢; have e : 1 + D2 d (y :: r) + 1 = (D2 d (y :: r) + 1) + 1 := (by omega); rw [e]; exact NoU.after hd h.2
theorem NoU.before {c : UInt8} : ∀ {s : Str}, NoU c (s.take (D2 c s))
  | [] => by simp [NoU]
  | [x] => by
    simp only [D2]; split
    · simp [NoU]
    · rename_i h; simpa [NoU] using h
  | x :: y :: r => by
    simp only [D2]; by_cases h1 : x = c
    · simp [h1, NoU]
    · rw [if_neg h1]; by_cases h2 : x = 92
      · rw [if_pos h2]; have e : 2 + D2 c r = D2 c r + 2 := (by omega); rw [e]; refine ⟨h1, ?_⟩; rw [if_pos h2]; exact NoU.before
      · rw [if_neg h2]; have ih := NoU.before (c := c) (s := y :: r); have e : 1 + D2 c (y :: r) = D2 c (y :: r) + 1 := (by omega); rw [e, List.take_succ_cons]; generalize List.take (D2 c (y :: r)) (y :: r) = t at *; cases t with
        | nil => exact h1
        | cons z t => exact ⟨h1, by rw [if_neg h2]; exact ih⟩
theorem b9y : ∀ (n : Nat) (s : Str), s.length ≤ n → ∀ p ∈ N0 s, NoU 44 p := by
  intro n
  induction n with
  | zero =>
    intro s hn p hp; have : s = [] := List.length_eq_zero_iff.1 (by omega); subst this; rw [Z9 (by simp)] at hp; simp at hp; subst hp; simp [NoU]
  | succ n ih =>
    intro s hn p hp; by_cases h : D2 44 s < s.length
    · rw [a2c h] at hp; rcases List.mem_cons.1 hp with rfl | hp
      · exact NoU.before
      · exact ih _ (by simp only [List.length_drop]; omega) p hp
    · rw [Z9 h] at hp; have : p = s := (by simpa using hp); subst this; have h2 := NoU.before (c := 44) (s := p)
      rwa [ttl (by omega)] at h2
abbrev F6 := Str × Str
def F9 (p : F6) : D := .agg [.str p.1, .str p.2]
def G1 (l : List F6) : D := .sl (l.map F9)
def Q6 (s : Str) : F6 × Int :=
  if D2 61 s < s.length then
    (match M6 (E6 (s.drop (D2 61 s + 1))) with
     | none => (([], []), 4)
     | some v => if M0 (E6 (s.take (D2 61 s))) = false then (([], []), 5) else if J7 v = false then (([], []), 8) else ((E6 (s.take (D2 61 s)), v), 0))
  else (([], []), 4)
def K9 (out : List F6) : List Str → List F6 × Int
  | [] => if 8 < out.length then ([], 3) else (out, 0)
  | p :: ps => if (Q6 p).2 = 0 then K9 (out ++ [(Q6 p).1]) ps else ([], (Q6 p).2)
def C8 (s : Str) : List F6 × Int := if s = [] then ([], 0) else K9 [] (N0 s)
def sqz (prev : UInt8) : Str → Str
  | [] => []
  | x :: r => if x = 32 ∧ prev = 32 then sqz x r else x :: sqz x r
def S3 (s : Str) : Str := sqz 0 (D6 (E6 s))
def P4 (s : Str) : Str := s.flatMap fun c => if O5 c = true then [92, c] else [c]
def V5 (p : F6) : Str := D6 p.1 ++ 61 :: P4 (S3 p.2)
def N3 (p : F6) : Int := if M0 p.1 = false then 5 else if J7 p.2 = false then 8 else 0
def W3 : List F6 → Int
  | [] => 0
  | p :: l => if N3 p = 0 then W3 l else N3 p
def V3 (l : List F6) : Int := if W3 l = 0 then (if 8 < l.length then 3 else 0) else W3 l
def F4 (l : List F6) : Str × Int := if V3 l = 0 then (D8 44 (l.map V5), 0) else ([], V3 l)
def K1 (s : Str) : Option (List F6) := if (C8 s).2 = 0 ∧ F4 (C8 s).1 = (s, 0) then some (C8 s).1 else none
def H5 (s : Str) : Bool := (K1 s).isSome
def CU : Str → Prop
  | [] => True
  | [x] => x ≠ 92 ∧ x ≠ 44
  | x :: y :: r => x ≠ 44 ∧ if x = 92 then CU r else CU (y :: r)
theorem CU.next : ∀ {p : Str}, CU p → ∀ (r : Str), D2 44 (p ++ 44 :: r) = p.length
  | [], _, r => by cases r <;> simp [D2]
  | [x], h, r => by
    simp only [CU] at h; have i := CU.next (p := []) trivial r; simp only [List.nil_append] at i; simp [D2, h.1, h.2, i]
  | x :: y :: t, h, r => by
    simp only [CU] at h; by_cases h2 : x = 92
    · rw [if_pos h2] at h; have i := CU.next h.2 r; simp only [List.cons_append, D2, if_neg h.1, if_pos h2, i, List.length_cons]; omega
    · rw [if_neg h2] at h; have i := CU.next h.2 r; simp only [List.cons_append] at i; simp only [List.cons_append, D2, if_neg h.1, if_neg h2, i, List.length_cons]; omega
theorem CU.all : ∀ {p : Str}, CU p → D2 44 p = p.length
  | [], _ => by simp [D2]
  | [x], h => by simp only [CU] at h; simp [D2, h.2]
  | x :: y :: t, h => by
    simp only [CU] at h; by_cases h2 : x = 92
    · rw [if_pos h2] at h; have i := CU.all h.2; simp only [D2, if_neg h.1, if_pos h2, i, List.length_cons]; omega
    · rw [if_neg h2] at h; have i := CU.all h.2; simp only [D2, if_neg h.1, if_neg h2, i, List.length_cons]; omega
theorem CU.cons {x : UInt8} {s : Str} (h1 : x ≠ 92) (h2 : x ≠ 44) (h : CU s) : CU (x :: s) := by
  cases s with
  | nil => exact ⟨h1, h2⟩
  | cons y r => exact ⟨h2, by rw [if_neg h1]; exact h⟩
theorem CU.esc {y : UInt8} {s : Str} (h : CU s) : CU (92 :: y :: s) := ⟨by decide, by rw [if_pos rfl]; exact h⟩
theorem CU.escV : ∀ (s : Str), CU (P4 s)
  | [] => trivial
  | c :: s => by
    have ih := CU.escV s; have e : Tz.P4 (c :: s) = (if O5 c = true then [92, c] else [c]) ++ Tz.P4 s := (by simp [Tz.P4]); rw [e]; by_cases h : O5 c = true
    · rw [if_pos h]; exact ih.esc
    · rw [if_neg h]; refine ih.cons ?_ ?_
      · rintro rfl; exact h (by decide)
      · rintro rfl; exact h (by decide)
theorem CU.pre : ∀ {a : Str} {b : Str}, (∀ x ∈ a, x ≠ 92 ∧ x ≠ 44) → CU b → CU (a ++ b)
  | [], b, _, h => h
  | x :: a, b, hx, h => CU.cons (hx x (by simp)).1 (hx x (by simp)).2 (CU.pre (fun y hy => hx y (by simp [hy])) h)
theorem c1P {c : UInt8} (h : W5 c = true) : c ≠ 92 ∧ c ≠ 44 ∧ c ≠ 61 := by
  refine ⟨?_, ?_, ?_⟩ <;> (rintro rfl; revert h; decide)
theorem b9A {c : UInt8} (h : W5 c = true) : W5 (a2y c) = true := by
  by_cases h1 : 65 ≤ (c.toNat : Int) ∧ (c.toNat : Int) ≤ 90
  · have := a3m c h1.1 h1.2; simp only [W5, a0e, Bool.or_eq_true, Bool.and_eq_true, decide_eq_true_eq]
    left; left; left
    omega
  · rw [a2y, if_neg h1]; exact h
theorem b6i {p : F6} (h : M0 p.1 = true) : CU (V5 p) := by
  refine CU.pre (fun x hx => ?_) ((CU.escV _).cons (by decide) (by decide)); simp only [D6, List.mem_map] at hx; obtain ⟨c, hc, rfl⟩ := hx; simp only [M0, Bool.and_eq_true, List.all_eq_true] at h; have := c1P (b9A (h.2 c hc)); exact ⟨this.1, this.2.1⟩
theorem b6s (p : F6) : V5 p ≠ [] := by simp [V5]
theorem a4Z : ∀ {l : List Str}, l ≠ [] → (∀ p ∈ l, CU p) → N0 (D8 44 l) = l
  | [], h, _ => absurd rfl h
  | [p], _, h => by
    simp only [D8]; exact Z9 (by rw [(h p (by simp)).all]; omega)
  | p :: q :: l, _, h => by
    have hp := h p (by simp); have ih := a4Z (l := q :: l) (by simp) (fun x hx => h x (by simp at hx ⊢; right; exact hx)); have e : D8 44 (p :: q :: l) = p ++ 44 :: D8 44 (q :: l) := rfl; have hn := hp.next (D8 44 (q :: l)); rw [e, a2c (by rw [hn]; simp), hn]; have e1 : List.take p.length (p ++ 44 :: D8 44 (q :: l)) = p := (by simp); have e2 : List.drop (p.length + 1) (p ++ 44 :: D8 44 (q :: l)) = D8 44 (q :: l) := by rw [← List.drop_drop]; simp
    rw [e1, e2, ih]
theorem b4u {l : List Str} (h : l ≠ []) (hn : ∀ p ∈ l, p ≠ []) : D8 44 l ≠ [] := by
  match l, h with
  | [p], _ => exact hn p (by simp)
  | p :: q :: l, _ => simp [D8]
def NP (p : F6) : Prop := Q6 (V5 p) = (p, 0)
theorem a5R {s : Str} {p : F6} (h : Q6 s = (p, 0)) : M0 p.1 = true ∧ J7 p.2 = true := by
  unfold Q6 at h; split at h
  · split at h
    · simp at h
    · split at h
      · simp at h
      · split at h
        · simp at h
        · rename_i h1 h2
          simp only [Prod.mk.injEq, and_true] at h; obtain ⟨rfl⟩ := h; exact ⟨by simpa using h1, by simpa using h2⟩
  · simp at h
theorem NP.pairE {p : F6} (h : NP p) : N3 p = 0 := by
  have := a5R h; simp [Tz.N3, this.1, this.2]
theorem a2J {l : List F6} : W3 l = 0 ↔ ∀ p ∈ l, N3 p = 0 := by
  induction l with
  | nil => simp [W3]
  | cons p l ih =>
    simp only [W3, List.mem_cons, forall_eq_or_imp]; by_cases h : N3 p = 0
    · simp [h, ih]
    · simp [h]
theorem b0f : ∀ {ps : List Str} {qs out : List F6}, ps.length = qs.length → (∀ i (h1 : i < ps.length) (h2 : i < qs.length), Q6 ps[i] = (qs[i], 0)) → K9 out ps = if 8 < (out ++ qs).length then ([], 3) else (out ++ qs, 0)
  | [], [], out, _, _ => by simp [K9]
  | p :: ps, q :: qs, out, hl, h => by
    have h0 := h 0 (by simp) (by simp); simp only [List.getElem_cons_zero] at h0; have ih := b0f (ps := ps) (qs := qs) (out := out ++ [q]) (by simpa using hl) (fun i h1 h2 => by
      have := h (i + 1) (by simpa using h1) (by simpa using h2); simpa using this)
    simp only [K9, h0, if_true, ih, List.append_assoc, List.singleton_append]
  | [], _ :: _, _, hl, _ => by simp at hl
  | _ :: _, [], _, hl, _ => by simp at hl
theorem a5L : ∀ {ps : List Str} {out r : List F6}, K9 out ps = (r, 0) → ∃ qs, r = out ++ qs ∧ ps.length = qs.length ∧ r.length ≤ 8 ∧ ∀ i (h1 : i < ps.length) (h2 : i < qs.length), Q6 ps[i] = (qs[i], 0)
  | [], out, r, h => by
    simp only [K9] at h; split at h
    · simp at h
    · rename_i h8
      simp only [Prod.mk.injEq, and_true] at h; subst h; exact ⟨[], by simp, rfl, by omega, fun i h1 => by simp at h1⟩
  | p :: ps, out, r, h => by
    simp only [K9] at h; split at h
    · rename_i h0
      obtain ⟨qs, hr, hl, h8, hq⟩ := a5L h; refine ⟨(Q6 p).1 :: qs, by rw [hr]; simp, by simp [hl], h8, fun i h1 h2 => ?_⟩; cases i with
      | zero => simp only [List.getElem_cons_zero]; rw [← h0]
      | succ i => simpa using hq i (by simpa using h1) (by simpa using h2)
    · rename_i h0
      simp only [Prod.mk.injEq] at h; exact absurd h.2 h0
theorem c1N {l : List F6} (hn : ∀ p ∈ l, NP p) (h8 : l.length ≤ 8) : F4 l = (D8 44 (l.map V5), 0) ∧ K1 (D8 44 (l.map V5)) = some l := by
  have hE : W3 l = 0 := a2J.2 fun p hp => (hn p hp).pairE
  have hf : F4 l = (D8 44 (l.map V5), 0) := by
    have hc : V3 l = 0 := by rw [V3, if_pos hE, if_neg (by omega)]
    rw [F4, if_pos hc]
  have hp : C8 (D8 44 (l.map V5)) = (l, 0) := by
    unfold C8; by_cases h : l = []
    · subst h; rfl
    · rw [if_neg (b4u (by simpa using h) (by simp only [List.mem_map]; rintro _ ⟨p, _, rfl⟩; exact b6s p)), a4Z (by simpa using h) (by simp only [List.mem_map]; rintro _ ⟨p, hp, rfl⟩; exact b6i (a5R (hn p hp)).1)]; rw [b0f (qs := l) (by simp) (fun i h1 h2 => by rw [List.getElem_map]; exact hn l[i] (gmm h2))]; simp only [List.nil_append]; rw [if_neg (by omega)]
  exact ⟨hf, by rw [K1, hp, if_pos ⟨rfl, hf⟩]⟩
theorem a1T {s : Str} {l : List F6} (h : K1 s = some l) : (∀ p ∈ l, NP p) ∧ l.length ≤ 8 ∧ s = D8 44 (l.map V5) ∧ C8 s = (l, 0) ∧ F4 l = (s, 0) := by
  unfold K1 at h; split at h
  · rename_i hh
    obtain ⟨h0, hf⟩ := hh; simp only [Option.some.injEq] at h; subst h; have hs : s = D8 44 ((C8 s).1.map V5) := by
      unfold F4 at hf; split at hf
      · simp only [Prod.mk.injEq, and_true] at hf; exact hf.symm
      · rename_i hc
        simp only [Prod.mk.injEq] at hf; exact absurd hf.2 hc
    have hchk : W3 (C8 s).1 = 0 ∧ (C8 s).1.length ≤ 8 := by
      unfold F4 at hf; split at hf
      · rename_i hc
        unfold V3 at hc; split at hc
        · rename_i he
          split at hc
          · simp at hc
          · exact ⟨he, by omega⟩
        · rename_i he; exact absurd hc he
      · rename_i hc
        simp only [Prod.mk.injEq] at hf; exact absurd hf.2 hc
    have hP : C8 s = ((C8 s).1, 0) := by rw [← h0]
    refine ⟨fun p hp => ?_, hchk.2, hs, hP, hf⟩; generalize hl : (C8 s).1 = l at *; by_cases hnil : l = []
    · subst hnil; simp at hp
    · have hnm : ∀ q ∈ l, M0 q.1 = true := fun q hq => by
        have := (a2J.1 hchk.1) q hq; unfold N3 at this; split at this
        · simp at this
        · rename_i h1; simpa using h1
      have hsn : s ≠ [] := by
        rw [hs]; exact b4u (by simpa using hnil) (by simp only [List.mem_map]; rintro _ ⟨p, _, rfl⟩; exact b6s p)
      have hpc : N0 s = l.map V5 := by
        rw [hs]; exact a4Z (by simpa using hnil) (by simp only [List.mem_map]; rintro _ ⟨q, hq, rfl⟩; exact b6i (hnm q hq))
      rw [C8, if_neg hsn, hpc] at hP; obtain ⟨qs, hr, hlen, _, hq⟩ := a5L hP; simp only [List.nil_append] at hr; subst hr; obtain ⟨i, hi, rfl⟩ := List.getElem_of_mem hp; have := hq i (by simpa using hi) hi; rw [List.getElem_map] at this; exact this
  · cases h
theorem b2w {s t : Str} {l : List F6} (h1 : K1 s = some l) (h2 : K1 t = some l) : s = t := by rw [(a1T h1).2.2.1, (a1T h2).2.2.1]
theorem b8D {s t : Str} {l m : List F6} (h1 : K1 s = some l) (h2 : K1 t = some m) {n : List F6} (hn : ∀ p ∈ n, p ∈ l ∨ p ∈ m) (h8 : n.length ≤ 8) : F4 n = (D8 44 (n.map V5), 0) ∧ K1 (D8 44 (n.map V5)) = some n :=
  c1N (fun p hp => by
    rcases hn p hp with h | h
    · exact (a1T h1).1 p h
    · exact (a1T h2).1 p h) h8
def T7 (s : Str) : Nat := ((K1 s).getD []).length
abbrev Chg := Csn × Int × Str × Str × Str × Str
def B0 (c : Chg) : D := .agg [B8 c.1, .int .i64 c.2.1, .str c.2.2.1, .str c.2.2.2.1, .str c.2.2.2.2.1, .str c.2.2.2.2.2]
def O6 (l : List Chg) : D := .sl (l.map B0)
structure S4 (c : Chg) : Prop where
  id : List.length c.2.2.1 < 900000
  name : List.length c.2.2.2.1 < 900000
  attr : List.length c.2.2.2.2.1 < 900000
  value : List.length c.2.2.2.2.2 < 900000
def G3 (op : Int) : Bool := decide (op = 1) || decide (op = 3)
def G7 (op : Int) : Bool := decide (op = 4) || decide (op = 5)
def J3 (c : Chg) : Bool := (!G3 c.2.1 && decide (c.2.2.2.1 ≠ [])) || (!G7 c.2.1 && (decide (c.2.2.2.2.1 ≠ []) || decide (c.2.2.2.2.2 ≠ [])))
def I9 (c : Chg) : Bool := (G3 c.2.1 && (decide (c.2.2.2.1 = []) || !H5 c.2.2.2.1)) || (G7 c.2.1 && (!M0 c.2.2.2.2.1 || decide (D6 c.2.2.2.2.1 ≠ c.2.2.2.2.1)))
def Q4 (c : Chg) : Int :=
  if U7 c.1 = false ∨ c.2.1 < 1 ∨ 5 < c.2.1 then 2
  else if (a0J c.2.2.1).2 ≠ 0 ∨ J3 c = true then 4
  else if I9 c = true then 5
  else if G7 c.2.1 = true ∧ J7 c.2.2.2.2.2 = false then 8 else 0
abbrev o1W : Str := [99, 114, 101, 97, 116, 101]
abbrev o2W : Str := [114, 101, 109, 111, 118, 101]
abbrev o3W : Str := [114, 101, 110, 97, 109, 101]
abbrev o4W : Str := [112, 117, 116]
abbrev o5W : Str := [100, 114, 111, 112]
def opW (x : Int) : Str := if x = 1 then o1W else if x = 2 then o2W else if x = 3 then o3W else if x = 4 then o4W else if x = 5 then o5W else []
def b4Z (c : Chg) : List Str :=
  if G3 c.2.1 = true then [opW c.2.1, Q8 c.1, c.2.2.1, a0l c.2.2.2.1]
  else if G7 c.2.1 = true then [opW c.2.1, Q8 c.1, c.2.2.1, a0l c.2.2.2.2.1, a0l c.2.2.2.2.2]
  else [opW c.2.1, Q8 c.1, c.2.2.1]
def a1q (c : Chg) : Str := D8 32 (b4Z c)
def N6 (c : Chg) : Str × Int := if Q4 c = 0 then (a1q c, 0) else ([], Q4 c)
def P3 : Chg := ((0, 0, 0), 0, [], [], [], [])
structure OkC (c : Chg) : Prop where
  num : U7 c.1 = true
  op1 : 1 ≤ c.2.1
  op5 : c.2.1 ≤ 5
  id : (a0J c.2.2.1).2 = 0
  used : J3 c = false
  name : I9 c = false
  value : ¬ (G7 c.2.1 = true ∧ J7 c.2.2.2.2.2 = false)
theorem a7z {c : Chg} : Q4 c = 0 ↔ OkC c := by
  unfold Q4; constructor
  · intro h; split at h
    · cases h
    · rename_i h1
      split at h
      · cases h
      · rename_i h2
        split at h
        · cases h
        · rename_i h3
          split at h
          · cases h
          · rename_i h4
            simp only [not_or, Bool.not_eq_false, Int.not_lt] at h1; simp only [not_or, Classical.not_not, Bool.not_eq_true, ne_eq] at h2; exact ⟨h1.1, h1.2.1, h1.2.2, h2.1, h2.2, by simpa using h3, h4⟩
  · rintro ⟨a, b, c', d, e, f, g⟩; rw [if_neg (by rw [a]; simp; omega), if_neg (by rw [d, e]; simp), if_neg (by rw [f]; simp), if_neg g]
structure c0B (S R : List Chg) : Prop where
  asc : R.Pairwise fun a b => a3g a.1 b.1 < 0
  mem : ∀ r, r ∈ R ↔ (r ∈ S ∧ Q4 r = 0 ∧ ∀ r' ∈ S, Q4 r' = 0 → r'.1 = r.1 → a1q r ≤ a1q r')
theorem c0B.has {S R : List Chg} (h : c0B S R) : ∀ {r : Chg}, r ∈ S → Q4 r = 0 → ∃ x ∈ R, x.1 = r.1 ∧ a1q x ≤ a1q r := by
  have key : ∀ (T : List Chg) (r : Chg), (∀ t ∈ T, t ∈ S) → r ∈ S → Q4 r = 0 → ∃ x ∈ S, Q4 x = 0 ∧ x.1 = r.1 ∧ a1q x ≤ a1q r ∧ ∀ t ∈ T, Q4 t = 0 → t.1 = r.1 → a1q x ≤ a1q t := by
    intro T
    induction T with
    | nil => intro r _ hr hc; exact ⟨r, hr, hc, rfl, List.le_refl _, by simp⟩
    | cons t T ih =>
      intro r hT hr hc; obtain ⟨x, hx, hxc, hx1, hxl, hxm⟩ := ih r (fun y hy => hT y (by simp [hy])) hr hc; by_cases ht : Q4 t = 0 ∧ t.1 = r.1
      · rcases List.le_total (a1q x) (a1q t) with hle | hle
        · exact ⟨x, hx, hxc, hx1, hxl, fun y hy hyc hy1 => by
            rcases List.mem_cons.1 hy with rfl | hy
            · exact hle
            · exact hxm y hy hyc hy1⟩
        · exact ⟨t, hT t (by simp), ht.1, ht.2, List.le_trans hle hxl, fun y hy hyc hy1 => by
            rcases List.mem_cons.1 hy with rfl | hy
            · exact List.le_refl _
            · exact List.le_trans hle (hxm y hy hyc hy1)⟩
      · exact ⟨x, hx, hxc, hx1, hxl, fun y hy hyc hy1 => by
          rcases List.mem_cons.1 hy with rfl | hy
          · exact absurd ⟨hyc, hy1⟩ ht
          · exact hxm y hy hyc hy1⟩
  intro r hr hc; obtain ⟨x, hx, hxc, hx1, hxl, hxm⟩ := key S r (fun _ h => h) hr hc; exact ⟨x, (h.mem x).2 ⟨hx, hxc, fun t ht htc ht1 => hxm t ht htc (by rw [ht1, hx1])⟩, hx1, hxl⟩
theorem b3g (a b : UInt8) : ((a.toNat : Int) = (b.toNat : Int)) ↔ a = b := by
  constructor
  · intro h; have : a.toNat = b.toNat := (by omega); exact UInt8.toNat_inj.1 this
  · rintro rfl; rfl
theorem b5a (c : UInt8) : O5 c = (decide ((c.toNat : Int) = 44) || decide ((c.toNat : Int) = 61) || decide ((c.toNat : Int) = 43) || decide ((c.toNat : Int) = 92)) := by
  have h := fun k (hk : k < 256) => I2 c k hk
  have h1 := h 44 (by omega); have h2 := h 61 (by omega); have h3 := h 43 (by omega); have h4 := h 92 (by omega); simp only [O5]; congr 1
  · congr 1
    · congr 1
      · exact decide_eq_decide.2 h1.symm
      · exact decide_eq_decide.2 h2.symm
    · exact decide_eq_decide.2 h3.symm
  · exact decide_eq_decide.2 h4.symm
theorem a0f (c : UInt8) : Ctr prog 170 [.d (u8 c)] (.d (.bool (O5 c))) := by
  refine fv (fun _ => false) func170 (by kernel_rfl) rfl rfl rfl rfl rfl ?_; rw [b5a]; by_cases h1 : (c.toNat : Int) = 44 <;> by_cases h2 : (c.toNat : Int) = 61 <;> by_cases h3 : (c.toNat : Int) = 43 <;> simp -implicitDefEqProofs [u8, h1, h2, h3]
theorem a0n (c : UInt8) : Ctr prog 138 [.d (u8 c)] (.d (.bool (O5 c))) := by
  refine fv (fun _ => false) func138 (by kernel_rfl) rfl rfl rfl rfl rfl ?_; rw [b5a]; by_cases h1 : (c.toNat : Int) = 44 <;> by_cases h2 : (c.toNat : Int) = 61 <;> by_cases h3 : (c.toNat : Int) = 43 <;> simp -implicitDefEqProofs [u8, h1, h2, h3]
theorem a6y {c : UInt8} {s : Str} {k : Nat} (h : k < s.length) : D2 c (s.drop k) = if s[k] = c then 0 else if s[k] = 92 then (if k + 1 < s.length then 2 + D2 c (s.drop (k + 2)) else 1) else 1 + D2 c (s.drop (k + 1)) := by
  rw [Z7 h]; by_cases h2 : k + 1 < s.length
  · rw [Z7 h2, D2]; simp only [if_pos h2]
  · have e : s.drop (k + 1) = [] := List.drop_eq_nil_of_le (by omega); rw [e, D2]; simp only [if_neg h2, D2]; by_cases h3 : s[k] = 92 <;> simp [h3]
def a1b (c : UInt8) (s : Str) : Int := if D2 c s < s.length then (D2 c s : Int) else -1
def NxI (c : UInt8) (s : Str) (k : Nat) : Prop := (k ≤ s.length → D2 c s = k + D2 c (s.drop k)) ∧ (s.length < k → D2 c s = s.length)
theorem NxI.zero (c : UInt8) (s : Str) : NxI c s 0 := ⟨fun _ => by simp, fun h => by omega⟩
theorem NxI.hit {c : UInt8} {s : Str} {k : Nat} (h : NxI c s k) (hk : k < s.length) (e : s[k] = c) : D2 c s = k := by
  rw [h.1 (by omega), a6y hk, if_pos e]; rfl
theorem NxI.one {c : UInt8} {s : Str} {k : Nat} (h : NxI c s k) (hk : k < s.length) (e : s[k] ≠ c) (e2 : s[k] ≠ 92) : NxI c s (k + 1) := by
  refine ⟨fun _ => ?_, fun h => by omega⟩; rw [h.1 (by omega), a6y hk, if_neg e, if_neg e2]; omega
theorem NxI.two {c : UInt8} {s : Str} {k : Nat} (h : NxI c s k) (hk : k < s.length) (e : s[k] ≠ c) (e2 : s[k] = 92) : NxI c s (k + 2) := by
  have h1 := h.1 (by omega); rw [a6y hk, if_neg e, if_pos e2] at h1; refine ⟨fun h2 => ?_, fun h2 => ?_⟩
  · rw [h1, if_pos (by omega)]; omega
  · rw [h1, if_neg (by omega)]; omega
theorem NxI.over {c : UInt8} {s : Str} {k : Nat} (h : NxI c s k) (hk : ¬ k < s.length) : D2 c s = s.length := by
  by_cases e : k = s.length
  · rw [h.1 (by omega), e]; simp [D2]
  · exact h.2 (by omega)
theorem b2K (s : Str) (c : UInt8) (hs : List.length s < 1000000) : Ctr prog 211 [.d (.str s), .d (u8 c)] (.d (.int .i64 (a1b c s))) := by
  refine fv (fun _ => false) func211 (by kernel_rfl) rfl rfl rfl rfl rfl ?_; simp -implicitDefEqProofs [u8]; refine H2 (List.length s + 1) (fun k τ => τ 0 = .d (.str s) ∧ τ 1 = .d (.int .u8 c.toNat) ∧ τ 5 = .d (.int .i64 k) ∧ NxI c s k) ⟨by simp, by simp, by simp, .zero c s⟩ ?_; rintro k τ hk ⟨h0, h1, h5, hI⟩; by_cases hlt : k < List.length s
  · by_cases h2 : s[k] = c
    · have h2' : (s[k].toNat : Int) = c.toNat := (b3g _ _).2 h2; have hn := hI.hit hlt h2; simp -implicitDefEqProofs [h0, h1, h5, hlt, h2']; rw [a1b, hn, if_pos hlt]
    · have h2' : ¬ (s[k].toNat : Int) = c.toNat := fun e => h2 ((b3g _ _).1 e)
      by_cases h3 : s[k] = 92
      · have h3' : (s[k].toNat : Int) = 92 := (I2 s[k] 92 (by omega)).2 h3; have h9 : ¬ (92 : Int) = c.toNat := by rw [← h3']; exact h2'
        simp -implicitDefEqProofs [h0, h1, h5, hlt, h2', h3', h9]; (repeat refine ai (by omega) ?_); exact b0Y (k' := k + 2) (by omega) (by omega) ⟨by simp [h0], by simp [h1], by simp; omega, hI.two hlt h2 h3⟩
      · have h3' : ¬ (s[k].toNat : Int) = 92 := fun e => h3 ((I2 s[k] 92 (by omega)).1 e)
        simp -implicitDefEqProofs [h0, h1, h5, hlt, h2', h3']; (repeat refine ai (by omega) ?_); exact D7 (by omega) ⟨by simp [h0], by simp [h1], by simp, hI.one hlt h2 h3⟩
  · have hn := hI.over hlt; have hlt' : ¬ (k : Int) < (List.length s : Int) := (by omega); simp -implicitDefEqProofs [h0, h1, h5, hlt']; rw [a1b, hn, if_neg (by omega)]
theorem a9m (s : Str) (c : UInt8) (hs : List.length s < 1000000) : Ctr prog 135 [.d (.str s), .d (u8 c)] (.d (.int .i64 (D2 c s))) := by
  refine fv (fun _ => false) func135 (by kernel_rfl) rfl rfl rfl rfl rfl ?_; simp -implicitDefEqProofs [u8]; refine H2 (List.length s + 1) (fun k τ => τ 0 = .d (.str s) ∧ τ 1 = .d (.int .u8 c.toNat) ∧ τ 5 = .d (.int .i64 k) ∧ NxI c s k) ⟨by simp, by simp, by simp, .zero c s⟩ ?_; rintro k τ hk ⟨h0, h1, h5, hI⟩; by_cases hlt : k < List.length s
  · by_cases h2 : s[k] = c
    · have h2' : (s[k].toNat : Int) = c.toNat := (b3g _ _).2 h2; have hn := hI.hit hlt h2; simp -implicitDefEqProofs [h0, h1, h5, hlt, h2', hn]
    · have h2' : ¬ (s[k].toNat : Int) = c.toNat := fun e => h2 ((b3g _ _).1 e)
      by_cases h3 : s[k] = 92
      · have h3' : (s[k].toNat : Int) = 92 := (I2 s[k] 92 (by omega)).2 h3; have h9 : ¬ (92 : Int) = c.toNat := by rw [← h3']; exact h2'
        simp -implicitDefEqProofs [h0, h1, h5, hlt, h2', h3', h9]; (repeat refine ai (by omega) ?_); exact b0Y (k' := k + 2) (by omega) (by omega) ⟨by simp [h0], by simp [h1], by simp; omega, hI.two hlt h2 h3⟩
      · have h3' : ¬ (s[k].toNat : Int) = 92 := fun e => h3 ((I2 s[k] 92 (by omega)).1 e)
        simp -implicitDefEqProofs [h0, h1, h5, hlt, h2', h3']; (repeat refine ai (by omega) ?_); exact D7 (by omega) ⟨by simp [h0], by simp [h1], by simp, hI.one hlt h2 h3⟩
  · have hn := hI.over hlt; have hlt' : ¬ (k : Int) < (List.length s : Int) := (by omega); simp -implicitDefEqProofs [h0, h1, h5, hlt', hn]
def PcI (s : Str) (m : Nat) (τ : St) : Prop := ∃ (rest : Str) (out : List Str), m = List.length rest ∧ τ 0 = .d (.str rest) ∧ τ 3 = .own true 9 (out.map .str) ∧ List.length rest ≤ List.length s ∧ out.length + List.length rest ≤ List.length s ∧ N0 s = out ++ N0 rest
theorem b7b (s : Str) (hs : List.length s < 1000000) : Ctr prog 183 [.d (.str s)] (.own true 9 ((N0 s).map .str)) := by
  refine fv (fun i => decide (i < 1000000)) func183 (by kernel_rfl) rfl rfl rfl rfl rfl ?_; simp -implicitDefEqProofs; refine a3p (PcI s) (List.length s) ⟨s, [], rfl, by simp, by simp, by omega, by simp, by simp⟩ ?_; rintro m τ ⟨rest, out, rfl, h0, h3, hr, ho, hp⟩; simp -implicitDefEqProofs [h0, h3]; refine A1 (b2K rest 44 (by omega)) ?_; by_cases hlt : D2 44 rest < rest.length
  · have hx : a1b 44 rest = (D2 44 rest : Int) := by rw [a1b, if_pos hlt]
    have hp2 := a2c hlt; generalize hj : D2 44 rest = j at *; have i0 : ¬ (j : Int) < 0 := (by omega); have i1 : (0 : Int) ≤ (j : Int) + 1 := (by omega); have j1 : ((j : Int) + 1).toNat = j + 1 := (by omega); simp -implicitDefEqProofs [h0, h3, hx, i0, i1, j1]; (repeat refine ai (by omega) ?_); refine ⟨List.length (rest.drop (j + 1)), by simp; omega, rest.drop (j + 1), out ++ [rest.take j], rfl, ?_, by simp, by simp; omega, by simp; omega, by rw [hp, hp2]; simp⟩; simp; exact ttl (by simp)
  · have hx : a1b 44 rest = -1 := by rw [a1b, if_neg hlt]
    simp -implicitDefEqProofs [h0, h3, hx]; (repeat refine ai (by omega) ?_); rw [hp, Z9 hlt]; simp
theorem b5H (c x : UInt8) (s : Str) : H8 c (x :: s) = if H8 c s = [] then (if x = c then [] else [x]) else x :: H8 c s := by
  by_cases h : H8 c s = []
  · have h' : List.dropWhile (fun x => decide (x = c)) s.reverse = [] := by simpa [H8] using h
    rw [if_pos h, H8, List.reverse_cons, List.dropWhile_append, h']; by_cases hx : x = c <;> simp [hx]
  · have h' : ¬ List.dropWhile (fun x => decide (x = c)) s.reverse = [] := fun e => h (by rw [H8, e]; rfl)
    have h2 : (List.dropWhile (fun x => decide (x = c)) s.reverse).isEmpty = false := by
      cases hq : List.dropWhile (fun x => decide (x = c)) s.reverse with
      | nil => exact absurd hq h'
      | cons a b => rfl
    rw [if_neg h, H8, List.reverse_cons, List.dropWhile_append, h2]; simp [H8]
theorem b7u {s : Str} : E6 (32 :: s) = E6 s := by
  rw [E6, b5H, E6]; by_cases h : H8 32 s = []
  · rw [if_pos h, h]; rfl
  · rw [if_neg h, S5, List.dropWhile_cons]; rfl
theorem b0R {s : Str} (h : 0 < List.length s) (e : s[List.length s - 1] = 32) : E6 s = E6 (s.take (List.length s - 1)) := by
  rw [E6, a0M h, if_pos e, E6]
theorem b3W {s : Str} (h : s.head? ≠ some 32) (h2 : ∀ (hl : 0 < List.length s), s[List.length s - 1] ≠ 32) : E6 s = s := by
  by_cases hl : 0 < List.length s
  · rw [E6, a0M hl, if_neg (h2 hl), S5]; cases s with
    | nil => rfl
    | cons x s =>
      rw [List.dropWhile_cons, if_neg]; intro hx; exact h (by simpa using hx)
  · obtain rfl : s = [] := List.eq_nil_of_length_eq_zero (by omega); rfl
def Tm1 (s : Str) (n : Nat) (τ : St) : Prop := ∃ t : Str, n = t.length ∧ τ 0 = .d (.str t) ∧ List.length t < 1000000 ∧ E6 s = E6 t
def Tm2 (s : Str) (n : Nat) (τ : St) : Prop := ∃ t : Str, n = t.length ∧ τ 0 = .d (.str t) ∧ List.length t < 1000000 ∧ E6 s = E6 t ∧ t.head? ≠ some 32
theorem a7Q (s : Str) (hs : List.length s < 1000000) : Ctr prog 188 [.d (.str s)] (.d (.str (E6 s))) := by
  refine fv (fun _ => false) func188 (by kernel_rfl) rfl rfl rfl rfl rfl ?_; simp -implicitDefEqProofs; refine a3p (Tm1 s) s.length ⟨s, rfl, by simp, hs, rfl⟩ ?_; rintro n τ ⟨t, rfl, h0, hl, ht⟩; have second : ∀ (t : Str) (τ : St), τ 0 = .d (.str t) → List.length t < 1000000 → E6 s = E6 t → t.head? ≠ some 32 → ∃ (m : Nat), Tm2 s m τ := fun t τ h0 hl ht hh => ⟨_, t, rfl, h0, hl, ht, hh⟩
  cases t with
  | nil =>
    simp -implicitDefEqProofs [h0]; refine a3p (Tm2 s) 0 ⟨[], rfl, by simp [h0], by simp, ht, by simp⟩ ?_; rintro n τ ⟨t, rfl, h0, hl, ht, hh⟩; by_cases hpos : 0 < List.length t
    · have hi : 0 ≤ (List.length t : Int) - 1 := (by omega); have hi2 : ((List.length t : Int) - 1).toNat = List.length t - 1 := (by omega); have hi3 : List.length t - 1 < List.length t := (by omega); have hi6 : 1 ≤ (List.length t : Int) := (by omega); have hz : ¬ t = [] := fun e => by subst e; simp at hpos
      by_cases hx : t[List.length t - 1] = 32
      · have hx' : (t[List.length t - 1].toNat : Int) = 32 := (I2 _ 32 (by omega)).2 hx; have e := b0R hpos hx; simp -implicitDefEqProofs [h0, hpos, hi, hi2, hi3, hi6, hx', hz]; (repeat refine ai (by omega) ?_); refine ⟨List.length t - 1, by omega, t.take (List.length t - 1), by rw [List.length_take]; omega, by simp, by rw [List.length_take]; omega, by rw [ht, e], ?_⟩; cases t with
        | nil => simp
        | cons x t =>
          cases t with
          | nil => simp
          | cons y t => simpa using hh
      · have hx' : ¬ (t[List.length t - 1].toNat : Int) = 32 := fun e => hx ((I2 _ 32 (by omega)).1 e)
        have e := b3W hh (fun _ => hx); simp -implicitDefEqProofs [h0, hpos, hi, hi2, hi3, hi6, hx', hz]; (repeat refine ai (by omega) ?_); rw [ht, e]
    · obtain rfl : t = [] := List.eq_nil_of_length_eq_zero (by omega); simp -implicitDefEqProofs [h0]; rw [ht]; rfl
  | cons x t =>
    by_cases hx : x = 32
    · subst hx; have e := b7u (s := t); simp -implicitDefEqProofs [h0]; exact ⟨_, by omega, t, rfl, by simp, by simp at hl; omega, by rw [ht, e]⟩
    · have hx' : ¬ (x.toNat : Int) = 32 := fun e => hx ((I2 _ 32 (by omega)).1 e)
      have hh : (x :: t).head? ≠ some 32 := (by simpa using hx); simp -implicitDefEqProofs [h0, hx']; generalize hq : x :: t = q at *; refine a3p (Tm2 s) q.length ⟨q, rfl, by simp [h0], hl, ht, hh⟩ ?_; clear hq hh ht hl h0; rintro n τ ⟨t, rfl, h0, hl, ht, hh⟩; by_cases hpos : 0 < List.length t
      · have hi : 0 ≤ (List.length t : Int) - 1 := (by omega); have hi2 : ((List.length t : Int) - 1).toNat = List.length t - 1 := (by omega); have hi3 : List.length t - 1 < List.length t := (by omega); have hi6 : 1 ≤ (List.length t : Int) := (by omega); have hz : ¬ t = [] := fun e => by subst e; simp at hpos
        by_cases hx : t[List.length t - 1] = 32
        · have hx' : (t[List.length t - 1].toNat : Int) = 32 := (I2 _ 32 (by omega)).2 hx; have e := b0R hpos hx; simp -implicitDefEqProofs [h0, hpos, hi, hi2, hi3, hi6, hx', hz]; (repeat refine ai (by omega) ?_); refine ⟨List.length t - 1, by omega, t.take (List.length t - 1), by rw [List.length_take]; omega, by simp, by rw [List.length_take]; omega, by rw [ht, e], ?_⟩; cases t with
          | nil => simp
          | cons x t =>
            cases t with
            | nil => simp
            | cons y t => simpa using hh
        · have hx' : ¬ (t[List.length t - 1].toNat : Int) = 32 := fun e => hx ((I2 _ 32 (by omega)).1 e)
          have e := b3W hh (fun _ => hx); simp -implicitDefEqProofs [h0, hpos, hi, hi2, hi3, hi6, hx', hz]; (repeat refine ai (by omega) ?_); rw [ht, e]
      · obtain rfl : t = [] := List.eq_nil_of_length_eq_zero (by omega); simp -implicitDefEqProofs [h0]; rw [ht]; rfl
theorem Z1 (s : Str) : (E6 s).length ≤ s.length := by
  have h1 : (S5 32 (H8 32 s)).length ≤ (H8 32 s).length := (List.dropWhile_sublist _).length_le; have h2 : (H8 32 s).length ≤ s.length := by
    rw [H8, List.length_reverse]; have := (List.dropWhile_sublist (l := s.reverse) fun x => decide (x = 32)).length_le; simpa using this
  rw [E6]; omega
theorem b5D (s : Str) : (S5 32 s).head? ≠ some 32 := by
  induction s with
  | nil => simp [S5]
  | cons x s ih =>
    rw [S5, List.dropWhile_cons]; by_cases hx : x = 32
    · rw [if_pos (by simp [hx])]; exact ih
    · rw [if_neg (by simp [hx])]; simpa using hx
theorem c4m (c : UInt8) : a2y c = 32 ↔ c = 32 := by
  constructor
  · intro h; by_cases h1 : 65 ≤ (c.toNat : Int) ∧ (c.toNat : Int) ≤ 90
    · have := a3m c h1.1 h1.2; rw [h] at this; have h3 : ((32 : UInt8).toNat : Int) = 32 := rfl; omega
    · rw [a2y, if_neg h1] at h; exact h
  · rintro rfl; decide
theorem b5r {s : Str} (h : (D6 (E6 s)).head? = some 32) : False := by
  have := b5D (H8 32 s); rw [← E6] at this; cases hq : E6 s with
  | nil => rw [hq] at h; simp [D6] at h
  | cons x t =>
    rw [hq] at h this; simp only [D6, List.map_cons, List.head?_cons, Option.some.injEq] at h; exact this (by simp [(c4m x).1 h])
theorem a9I : ∀ (a : Str) (p x : UInt8), sqz p (a ++ [x]) = sqz p a ++ (if x = 32 ∧ a.getLast?.getD p = 32 then [] else [x])
  | [], p, x => by by_cases h : x = 32 ∧ p = 32 <;> simp [sqz, h]
  | y :: a, p, x => by
    have ih1 := a9I a y x; have ih2 := a9I a p x; have hl : (y :: a).getLast?.getD p = a.getLast?.getD y := by rw [List.getLast?_cons]; rfl
    rw [hl]; simp only [List.cons_append, sqz]; by_cases h : y = 32 ∧ p = 32
    · obtain ⟨rfl, rfl⟩ := h; simp only [and_self, if_true]; exact ih1
    · rw [if_neg h, if_neg h, ih1]; rfl
theorem a5k : ∀ (a : Str) (p : UInt8), (sqz p a).length ≤ a.length
  | [], _ => by simp [sqz]
  | y :: a, p => by
    have h1 := a5k a p; have h2 := a5k a y; simp only [sqz]; split <;> simp <;> omega
theorem a7t (s : Str) : (S3 s).length ≤ s.length := by
  have h1 := a5k (D6 (E6 s)) 0; rw [O8] at h1; have := Z1 s; rw [S3]; omega
theorem b5l {t : Str} {k : Nat} (h : k ≤ t.length) (h0 : 0 < k) (p : UInt8) : (t.take k).getLast?.getD p = t[k - 1]'(by omega) := by
  rw [List.getLast?_eq_getElem?, List.length_take, Nat.min_eq_left h, List.getElem?_take, if_pos (by omega), List.getElem?_eq_getElem (by omega)]; rfl
theorem a9h {t : Str} {k : Nat} (h : k < t.length) (hh : t.head? ≠ some 32) : sqz 0 (t.take (k + 1)) = sqz 0 (t.take k) ++ (if t[k] = 32 ∧ (∀ (h0 : 0 < k), t[k - 1] = 32) then [] else [t[k]]) := by
  rw [J0 h, a9I]; congr 1
  by_cases h0 : 0 < k
  · rw [b5l (by omega) h0]; by_cases h1 : t[k] = 32 ∧ t[k - 1] = 32
    · rw [if_pos h1, if_pos ⟨h1.1, fun _ => h1.2⟩]
    · rw [if_neg h1, if_neg fun e => h1 ⟨e.1, e.2 h0⟩]
  · obtain rfl : k = 0 := by omega
    have h2 : t[0] ≠ 32 := by
      intro e; apply hh
      cases t with
      | nil => simp at h
      | cons x t => simpa using e
    rw [if_neg (fun e => h2 e.1), if_neg (fun e => h2 e.1)]
theorem b2E {t : Str} {k : Nat} (h : k < t.length) (hh : t.head? ≠ some 32) (e : t[k] ≠ 32) : sqz 0 (t.take (k + 1)) = sqz 0 (t.take k) ++ [t[k]] := by
  rw [a9h h hh, if_neg fun q => e q.1]
theorem b2i {t : Str} {k : Nat} (h : k < t.length) (hh : t.head? ≠ some 32) (h0 : 0 < k) (e : t[k - 1] ≠ 32) : sqz 0 (t.take (k + 1)) = sqz 0 (t.take k) ++ [t[k]] := by
  rw [a9h h hh, if_neg fun q => e (q.2 h0)]
theorem b2J {t : Str} {k : Nat} (h : k < t.length) (hh : t.head? ≠ some 32) (e : t[k] = 32) (h0 : 0 < k) (e2 : t[k - 1] = 32) : sqz 0 (t.take (k + 1)) = sqz 0 (t.take k) := by
  rw [a9h h hh, if_pos ⟨e, fun _ => e2⟩, List.append_nil]
theorem c1o (s : Str) (hs : List.length s < 1000000) : Ctr prog 169 [.d (.str s)] (.d (.str (S3 s))) := by
  refine fv (fun _ => false) func169 (by kernel_rfl) rfl rfl rfl rfl rfl ?_; have ht := Z1 s; have hl : List.length (D6 (E6 s)) < 1000000 := by rw [O8]; omega
  have hh : (D6 (E6 s)).head? ≠ some 32 := fun h => b5r h
  have hf : S3 s = sqz 0 (D6 (E6 s)) := rfl; have c2 := a2l (E6 s) (by omega); simp -implicitDefEqProofs; refine A1 (a8C s hs) ?_; simp -implicitDefEqProofs; refine A1 c2 ?_; clear c2; rw [hf]; generalize D6 (E6 s) = t at *; simp -implicitDefEqProofs; refine H2 t.length (fun k τ => τ 3 = .d (.str t) ∧ τ 10 = .d (.int .i64 t.length) ∧ τ 11 = .d (.int .i64 k) ∧ τ 4 = .own false 5 (B4 (sqz 0 (t.take k)))) ⟨by simp, by simp, by simp, by simp [sqz, B4]⟩ ?_; rintro k τ hk ⟨h3, h10, h11, h4⟩; by_cases hlt : k < List.length t
  · have hq := a5k (t.take k) 0; rw [List.length_take] at hq; by_cases e1 : t[k] = 32
    · have e1' : (t[k].toNat : Int) = 32 := (I2 _ 32 (by omega)).2 e1; have h0 : 0 < k := by
        rcases Nat.eq_zero_or_pos k with rfl | h
        · exfalso
          apply hh
          cases t with
          | nil => simp at hlt
          | cons x t => simpa using e1
        · exact h
      have i1 : (0 : Int) ≤ (k : Int) - 1 := (by omega); have j1 : ((k : Int) - 1).toNat = k - 1 := (by omega); have l1 : k - 1 < List.length t := (by omega); by_cases e2 : t[k - 1] = 32
      · have e2' : (t[k - 1].toNat : Int) = 32 := (I2 _ 32 (by omega)).2 e2; have hs3 := b2J hlt hh e1 h0 e2; simp -implicitDefEqProofs [h3, h10, h11, h4, hlt, e1', e2', i1, j1, l1]; (repeat refine ai (by omega) ?_); refine D7 hlt ⟨by simp [h3], by simp [h10], by simp, by simp [hs3, h4]⟩
      · have e2' : ¬ (t[k - 1].toNat : Int) = 32 := fun e => e2 ((I2 _ 32 (by omega)).1 e)
        have hs3 := b2i hlt hh h0 e2; simp -implicitDefEqProofs [h3, h10, h11, h4, hlt, e1', e2', i1, j1, l1]; (repeat refine And.intro (by first | omega | (simp [B4]; omega)) ?_); refine D7 hlt ⟨by simp [h3], by simp [h10], by simp, by simp [hs3, B4, e1']⟩
    · have e1' : ¬ (t[k].toNat : Int) = 32 := fun e => e1 ((I2 _ 32 (by omega)).1 e)
      have hs3 := b2E hlt hh e1; simp -implicitDefEqProofs [h3, h10, h11, h4, hlt, e1']; (repeat refine And.intro (by first | omega | (simp [B4]; omega)) ?_); refine D7 hlt ⟨by simp [h3], by simp [h10], by simp, by simp [hs3, B4]⟩
  · rw [ttl (by omega)] at h4; simp -implicitDefEqProofs [h3, h10, h11, h4, hlt]
theorem b9S (s : Str) (hs : List.length s < 1000000) : Ctr prog 137 [.d (.str s)] (.d (.str (S3 s))) := by
  refine fv (fun _ => false) func137 (by kernel_rfl) rfl rfl rfl rfl rfl ?_; have ht := Z1 s; have hl : List.length (D6 (E6 s)) < 1000000 := by rw [O8]; omega
  have hh : (D6 (E6 s)).head? ≠ some 32 := fun h => b5r h
  have hf : S3 s = sqz 0 (D6 (E6 s)) := rfl; have c2 := b4Q (E6 s) (by omega); simp -implicitDefEqProofs; refine A1 (a7Q s hs) ?_; simp -implicitDefEqProofs; refine A1 c2 ?_; clear c2; rw [hf]; generalize D6 (E6 s) = t at *; simp -implicitDefEqProofs; refine H2 t.length (fun k τ => τ 3 = .d (.str t) ∧ τ 5 = .d (.int .i64 k) ∧ τ 4 = .own false 5 (B4 (sqz 0 (t.take k)))) ⟨by simp, by simp, by simp [sqz, B4]⟩ ?_; rintro k τ hk ⟨h3, h5, h4⟩; by_cases hlt : k < List.length t
  · have hq := a5k (t.take k) 0; rw [List.length_take] at hq; rcases Nat.eq_zero_or_pos k with h0 | h0
    · subst h0; cases t with
      | nil => simp at hlt
      | cons x t =>
      have e1 : x ≠ 32 := (by simpa using hh); have e1' : ¬ (x.toNat : Int) = 32 := fun e => e1 ((I2 _ 32 (by omega)).1 e)
      simp only [List.take_zero, sqz, B4, List.map_nil] at h4; simp -implicitDefEqProofs [h3, h5, h4, e1']; refine D7 hlt ⟨by simp [h3], by simp, by simp [sqz, e1, B4]⟩
    · have z0 : ¬ (k : Int) = 0 := (by omega); have z1 : ¬ k = 0 := (by omega); have i1 : (0 : Int) ≤ (k : Int) - 1 := (by omega); have j1 : ((k : Int) - 1).toNat = k - 1 := (by omega); have l1 : k - 1 < List.length t := (by omega); by_cases e1 : t[k] = 32
      · have e1' : (t[k].toNat : Int) = 32 := (I2 _ 32 (by omega)).2 e1; by_cases e2 : t[k - 1] = 32
        · have e2' : (t[k - 1].toNat : Int) = 32 := (I2 _ 32 (by omega)).2 e2; have hs3 := b2J hlt hh e1 h0 e2; simp -implicitDefEqProofs [h3, h5, h4, hlt, e1', e2', i1, j1, l1, z0, z1]; (repeat refine ai (by omega) ?_); refine D7 hlt ⟨by simp [h3], by simp, by simp [hs3, h4]⟩
        · have e2' : ¬ (t[k - 1].toNat : Int) = 32 := fun e => e2 ((I2 _ 32 (by omega)).1 e)
          have hs3 := b2i hlt hh h0 e2; simp -implicitDefEqProofs [h3, h5, h4, hlt, e1', e2', i1, j1, l1, z0, z1]; (repeat refine And.intro (by first | omega | (simp [B4]; omega)) ?_); refine D7 hlt ⟨by simp [h3], by simp, by simp [hs3, B4, e1']⟩
      · have e1' : ¬ (t[k].toNat : Int) = 32 := fun e => e1 ((I2 _ 32 (by omega)).1 e)
        have hs3 := b2E hlt hh e1; simp -implicitDefEqProofs [h3, h5, h4, hlt, e1', z0, z1]; (repeat refine And.intro (by first | omega | (simp [B4]; omega)) ?_); refine D7 hlt ⟨by simp [h3], by simp, by simp [hs3, B4]⟩
  · rw [ttl (by omega)] at h4; simp -implicitDefEqProofs [h3, h5, h4, hlt]
theorem b8A {s : Str} {k : Nat} (h : k + 1 < s.length) (e : s[k] = 92) : M6 (s.drop k) = if O5 s[k + 1] = true then (M6 (s.drop (k + 2))).map (s[k + 1] :: ·) else none := by
  rw [Z7 (show k < s.length by omega), Z7 h, M6, if_pos e]
theorem b7W {s : Str} {k : Nat} (h : k < s.length) (h2 : ¬ k + 1 < s.length) (e : s[k] = 92) : M6 (s.drop k) = none := by
  rw [Z7 h, List.drop_eq_nil_of_le (by omega), M6, if_pos e]
theorem b8q {s : Str} {k : Nat} (h : k < s.length) (e : s[k] ≠ 92) : M6 (s.drop k) = if O5 s[k] = true then none else (M6 (s.drop (k + 1))).map (s[k] :: ·) := by
  rw [Z7 h]; by_cases h2 : k + 1 < s.length
  · rw [Z7 h2, M6, if_neg e]
  · rw [List.drop_eq_nil_of_le (by omega)]; simp only [M6, if_neg e]; rfl
theorem b8o {s : Str} {k : Nat} (h : k + 1 < s.length) (e : s[k] = 92) : M4 (s.drop k) = if O5 s[k + 1] = true then (M4 (s.drop (k + 2))).map (s[k + 1] :: ·) else none := by
  rw [Z7 (show k < s.length by omega), Z7 h, M4, if_pos e]
theorem b6P {s : Str} {k : Nat} (h : k < s.length) (h2 : ¬ k + 1 < s.length) (e : s[k] = 92) : M4 (s.drop k) = none := by
  rw [Z7 h, List.drop_eq_nil_of_le (by omega), M4, if_pos e]
theorem b7P {s : Str} {k : Nat} (h : k < s.length) (e : s[k] ≠ 92) : M4 (s.drop k) = if s[k] = 61 ∨ s[k] = 43 then none else (M4 (s.drop (k + 1))).map (s[k] :: ·) := by
  rw [Z7 h]; by_cases h2 : k + 1 < s.length
  · rw [Z7 h2, M4, if_neg e]
  · rw [List.drop_eq_nil_of_le (by omega)]; simp only [M4, if_neg e]; rfl
theorem a6r : ∀ (n : Nat) (s : Str), s.length ≤ n → ∀ v, M6 s = some v → v.length ≤ s.length
  | _, [], _, v, h => by simp only [M6, Option.some.injEq] at h; subst h; simp
  | 0, x :: s, hn, _, _ => by simp at hn
  | n + 1, [x], _, v, h => by
    simp only [M6] at h; split at h
    · cases h
    · split at h
      · cases h
      · simp only [Option.some.injEq] at h; subst h; simp
  | n + 1, x :: y :: r, hn, v, h => by
    simp only [List.length_cons] at hn; simp only [M6] at h; split at h
    · split at h
      · obtain ⟨w, hw, rfl⟩ := Option.map_eq_some_iff.1 h; have := a6r n r (by omega) w hw; simp only [List.length_cons]; omega
      · cases h
    · split at h
      · cases h
      · obtain ⟨w, hw, rfl⟩ := Option.map_eq_some_iff.1 h; have := a6r n (y :: r) (by simp only [List.length_cons]; omega) w hw; simp only [List.length_cons] at this ⊢; omega
theorem a6f : ∀ (n : Nat) (s : Str), s.length ≤ n → ∀ v, M4 s = some v → v.length ≤ s.length
  | _, [], _, v, h => by simp only [M4, Option.some.injEq] at h; subst h; simp
  | 0, x :: s, hn, _, _ => by simp at hn
  | n + 1, [x], _, v, h => by
    simp only [M4] at h; split at h
    · cases h
    · split at h
      · cases h
      · simp only [Option.some.injEq] at h; subst h; simp
  | n + 1, x :: y :: r, hn, v, h => by
    simp only [List.length_cons] at hn; simp only [M4] at h; split at h
    · split at h
      · obtain ⟨w, hw, rfl⟩ := Option.map_eq_some_iff.1 h; have := a6f n r (by omega) w hw; simp only [List.length_cons]; omega
      · cases h
    · split at h
      · cases h
      · obtain ⟨w, hw, rfl⟩ := Option.map_eq_some_iff.1 h; have := a6f n (y :: r) (by simp only [List.length_cons]; omega) w hw; simp only [List.length_cons] at this ⊢; omega
def a0a (o : Option Str) : Str × Bool := match o with
  | some v => (v, true)
  | none => ([], false)
def VaI (f : Str → Option Str) (s : Str) (k : Nat) (out : Str) : Prop := f s = (f (s.drop k)).map (out ++ ·) ∧ out.length ≤ k
theorem VaI.zero {f : Str → Option Str} (s : Str) : VaI f s 0 [] := ⟨by simp, by simp⟩
theorem VaI.one {f : Str → Option Str} {s : Str} {k j : Nat} {out : Str} {x : UInt8} (h : VaI f s k out) (hj : k < j) (e : f (s.drop k) = (f (s.drop j)).map (x :: ·)) : VaI f s j (out ++ [x]) := by
  refine ⟨?_, ?_⟩
  · rw [h.1, e]; cases f (s.drop j) <;> simp
  · have := h.2; simp; omega
theorem VaI.none {f : Str → Option Str} {s : Str} {k : Nat} {out : Str} (h : VaI f s k out) (e : f (s.drop k) = Option.none) : f s = Option.none := by rw [h.1, e]; rfl
theorem VaI.all {f : Str → Option Str} {s : Str} {k : Nat} {out : Str} (h : VaI f s k out) (hk : ¬ k < s.length) (e : f [] = some []) : f s = some out := by
  rw [h.1, List.drop_eq_nil_of_le (by omega), e]; simp
theorem b8Q (s : Str) (hs : List.length s < 1000000) : Ctr prog 212 [.d (.str s)] (.tup [.d (.str (a0a (M6 s)).1), .d (.bool (a0a (M6 s)).2)]) := by
  refine H1 (rv := .tmp 2) (rs := [.tmp 3]) (r := .d (.str (a0a (M6 s)).1)) (ys := [.d (.bool (a0a (M6 s)).2)]) (fun i => i == 1000004 || i == 5000038 || i == 5000039) (by kernel_rfl) func212 (by kernel_rfl) rfl rfl (by simp) (nbl rfl) (by kernel_rfl) rfl rfl ?_; simp -implicitDefEqProofs; refine b3m 1000000 1000001 5 (by simp) (by kernel_rfl) (by simp) (by simp) (fun b => ?_); simp -implicitDefEqProofs; refine H2 (List.length s) (fun k τ => τ 0 = .d (.str s) ∧ τ 5 = .d (.int .i64 k) ∧ τ 4 = .d (.raw (va b)) ∧ ∃ out, VaI M6 s k out ∧ a8y τ b out) ?_ ?_
  · exact ⟨by simp, by simp, by simp, [], .zero s, .nilp, .slice none 0 0, .inl rfl, by simp [b3q], by simp [B4]⟩
  rintro k τ hk ⟨h0, h5, h4, out, hI, p, hd, hp, hb, hh⟩; have hol := hI.2; by_cases hlt : k < List.length s
  · by_cases h2 : s[k] = 92
    · have h2' : (s[k].toNat : Int) = 92 := (I2 s[k] 92 (by omega)).2 h2; by_cases h3 : k + 1 < List.length s
      · have e := b8A h3 h2; have ne : ¬ (k : Int) + 1 = (List.length s : Int) := (by omega); have i1 : (0 : Int) ≤ (k : Int) + 1 := (by omega); have j1 : ((k : Int) + 1).toNat = k + 1 := (by omega); by_cases h6 : O5 s[k + 1] = true
        · rw [if_pos h6] at e; simp -implicitDefEqProofs [h0, h5, h4, hlt, h2', ne, h3, i1, j1]; (repeat refine ai (by omega) ?_); refine A1 (a0f s[k + 1]) ?_; simp -implicitDefEqProofs [h0, h5, h4, hlt, h2', ne, h3, i1, j1, h6]; refine M2 [1000000, 1000001] 1000000 (J1 (s := out) (hd := hd) hp s[k + 1] (by omega)) (by simp [hb, hh]) rfl (by simp) ?_; rintro r hs' ⟨hd1, rfl⟩; simp -implicitDefEqProofs [h0, h5, h4, hlt, C0, D1]; (repeat refine ai (by omega) ?_); exact b0Y (k' := k + 2) (by omega) (by omega) ⟨by simp [h0], by simp; omega, by simp [h4], out ++ [s[k + 1]], hI.one (by omega) e, .raw (va b), hd1, .inr rfl, by simp, by simp⟩
        · rw [if_neg h6] at e; have hn := hI.none e; simp -implicitDefEqProofs [h0, h5, h4, hlt, h2', ne, h3, i1, j1]; (repeat refine ai (by omega) ?_); refine A1 (a0f s[k + 1]) ?_; simp -implicitDefEqProofs [h0, h5, h4, hlt, h2', ne, h3, i1, j1, h6, a0a, hn]
      · have hn := hI.none (b7W hlt h3 h2); have ne : (k : Int) + 1 = (List.length s : Int) := (by omega); simp -implicitDefEqProofs [h0, h5, h4, hlt, h2', ne, a0a, hn]; try omega
    · have h2' : ¬ (s[k].toNat : Int) = 92 := fun e => h2 ((I2 s[k] 92 (by omega)).1 e)
      have e := b8q hlt h2; simp -implicitDefEqProofs [h0, h5, h4, hlt, h2']; refine A1 (a0f s[k]) ?_; by_cases h6 : O5 s[k] = true
      · rw [if_pos h6] at e; have hn := hI.none e; simp -implicitDefEqProofs [h0, h5, h4, hlt, h2', h6, a0a, hn]
      · rw [if_neg h6] at e; simp -implicitDefEqProofs [h0, h5, h4, hlt, h2', h6]; refine M2 [1000000, 1000001] 1000000 (J1 (s := out) (hd := hd) hp s[k] (by omega)) (by simp [hb, hh]) rfl (by simp) ?_; rintro r hs' ⟨hd1, rfl⟩; simp -implicitDefEqProofs [h0, h5, h4, hlt, C0, D1]; (repeat refine ai (by omega) ?_); exact D7 hlt ⟨by simp [h0], by simp, by simp [h4], out ++ [s[k]], hI.one (by omega) e, .raw (va b), hd1, .inr rfl, by simp, by simp⟩
  · have hv := hI.all hlt rfl; simp -implicitDefEqProofs [h0, h5, h4, hlt]; refine M2 [1000000, 1000001] 1000000 (a4v (s := out) (hd := hd) hp) (by simp [hb, hh]) rfl (by simp) ?_; rintro r hs' ⟨rfl, rfl⟩; simp -implicitDefEqProofs [h0, h5, h4, hlt, C0, D1, a0a, hv]
theorem b7F (s : Str) (hs : List.length s < 1000000) : Ctr prog 187 [.d (.str s)] (.tup [.d (.str (a0a (M4 s)).1), .d (.bool (a0a (M4 s)).2)]) := by
  refine H1 (rv := .tmp 2) (rs := [.tmp 3]) (r := .d (.str (a0a (M4 s)).1)) (ys := [.d (.bool (a0a (M4 s)).2)]) (fun i => false) (by kernel_rfl) func187 (by kernel_rfl) rfl rfl (by simp) (nbl rfl) (by kernel_rfl) rfl rfl ?_; simp -implicitDefEqProofs; refine H2 (List.length s) (fun k τ => τ 0 = .d (.str s) ∧ τ 5 = .d (.int .i64 k) ∧ ∃ out, VaI M4 s k out ∧ τ 4 = .own false 5 (B4 out)) ?_ ?_
  · exact ⟨by simp, by simp, [], .zero s, by simp [B4]⟩
  rintro k τ hk ⟨h0, h5, out, hI, h4⟩; have hol := hI.2; have hbl : (B4 out).length = out.length := (by simp [B4]); by_cases hlt : k < List.length s
  · by_cases h2 : s[k] = 92
    · have h2' : (s[k].toNat : Int) = 92 := (I2 s[k] 92 (by omega)).2 h2; by_cases h3 : k + 1 < List.length s
      · have e := b8o h3 h2; have ne : ¬ (List.length s : Int) ≤ (k : Int) + 1 := (by omega); have i1 : (0 : Int) ≤ (k : Int) + 1 := (by omega); have j1 : ((k : Int) + 1).toNat = k + 1 := (by omega); by_cases h6 : O5 s[k + 1] = true
        · rw [if_pos h6] at e; simp -implicitDefEqProofs [h0, h5, h4, hlt, h2', ne, h3, i1, j1]; (repeat refine ai (by omega) ?_); refine A1 (a0n s[k + 1]) ?_; simp -implicitDefEqProofs [h0, h5, h4, hlt, h2', ne, h3, i1, j1, h6]; (repeat refine And.intro (by first | omega | (simp [B4]; omega)) ?_); exact b0Y (k' := k + 2) (by omega) (by omega) ⟨by simp [h0], by simp; omega, out ++ [s[k + 1]], hI.one (by omega) e, by simp [B4]⟩
        · rw [if_neg h6] at e; have hn := hI.none e; simp -implicitDefEqProofs [h0, h5, h4, hlt, h2', ne, h3, i1, j1]; (repeat refine ai (by omega) ?_); refine A1 (a0n s[k + 1]) ?_; simp -implicitDefEqProofs [h0, h5, h4, hlt, h2', ne, h3, i1, j1, h6, a0a, hn]
      · have hn := hI.none (b6P hlt h3 h2); have ne : (List.length s : Int) ≤ (k : Int) + 1 := (by omega); simp -implicitDefEqProofs [h0, h5, h4, hlt, h2', ne, a0a, hn]; try omega
    · have h2' : ¬ (s[k].toNat : Int) = 92 := fun e => h2 ((I2 s[k] 92 (by omega)).1 e)
      have e := b7P hlt h2; by_cases h6 : s[k] = 61
      · have h6' : (s[k].toNat : Int) = 61 := (I2 s[k] 61 (by omega)).2 h6; rw [if_pos (.inl h6)] at e; have hn := hI.none e; simp -implicitDefEqProofs [h0, h5, h4, hlt, h2', h6', a0a, hn]
      · have h6' : ¬ (s[k].toNat : Int) = 61 := fun e => h6 ((I2 s[k] 61 (by omega)).1 e)
        by_cases h7 : s[k] = 43
        · have h7' : (s[k].toNat : Int) = 43 := (I2 s[k] 43 (by omega)).2 h7; rw [if_pos (.inr h7)] at e; have hn := hI.none e; simp -implicitDefEqProofs [h0, h5, h4, hlt, h2', h6', h7', a0a, hn]
        · have h7' : ¬ (s[k].toNat : Int) = 43 := fun e => h7 ((I2 s[k] 43 (by omega)).1 e)
          rw [if_neg (by simp [h6, h7])] at e; simp -implicitDefEqProofs [h0, h5, h4, hlt, h2', h6', h7']; (repeat refine And.intro (by first | omega | (simp [B4]; omega)) ?_); exact D7 hlt ⟨by simp [h0], by simp, out ++ [s[k]], hI.one (by omega) e, by simp [B4]⟩
  · have hv := hI.all hlt rfl; simp -implicitDefEqProofs [h0, h5, h4, hlt, a0a, hv]
theorem b5C (s : Str) (hs : List.length s < 1000000) : Ctr prog 213 [.d (.str s)] (.d (.str (E6 s))) := by
  refine fv (fun _ => false) func213 (by kernel_rfl) rfl rfl rfl rfl rfl ?_; simp -implicitDefEqProofs; refine A1 (a8C s hs) ?_; simp -implicitDefEqProofs
def a4D (s : Str) : F6 × Int :=
  if D2 61 s < s.length then
    (match M4 (E6 (s.drop (D2 61 s + 1))) with
     | none => (([], []), 4)
     | some v => if M0 (E6 (s.take (D2 61 s))) = false then (([], []), 5) else if J7 v = false then (([], []), 8) else ((E6 (s.take (D2 61 s)), v), 0))
  else (([], []), 4)
theorem b4L {s : Str} (h : NoU 44 s) : a4D s = Q6 s := by
  unfold a4D Q6; rw [a8d _ ((NoU.after (d := 61) (by decide) h).trim)]; try rfl
theorem c1f (s : Str) (hs : List.length s < 1000000) : Ctr prog 184 [.d (.str s)] (.tup [.d (F9 (Q6 s).1), .d (.int .i64 (Q6 s).2)]) := by
  refine H1 (rv := .cell 2 121) (rs := [.tmp 3]) (r := .d (F9 (Q6 s).1)) (ys := [.d (.int .i64 (Q6 s).2)]) (fun _ => false) (by kernel_rfl) func184 (by kernel_rfl) rfl rfl (by simp) (nbl rfl) (by kernel_rfl) rfl rfl ?_; simp -implicitDefEqProofs; refine A1 (b2K s 61 hs) ?_; by_cases hlt : D2 61 s < s.length
  case neg =>
    have hx : a1b 61 s = -1 := by rw [a1b, if_neg hlt]
    simp -implicitDefEqProofs [hx]; simp [Q6, hlt, F9]
  have hx : a1b 61 s = (D2 61 s : Int) := by rw [a1b, if_pos hlt]
  unfold Q6; rw [if_pos hlt]; have b1 : List.length (s.drop (D2 61 s + 1)) < 1000000 := by simp; omega
  have b2 : List.length (s.take (D2 61 s)) < 1000000 := by simp; omega
  generalize hj : D2 61 s = j at *; have htk : List.take (List.length s - (j + 1)) (List.drop (j + 1) s) = List.drop (j + 1) s := ttl (by simp); have i0 : ¬ (j : Int) < 0 := (by omega); have i1 : (0 : Int) ≤ (j : Int) + 1 := (by omega); have j1 : ((j : Int) + 1).toNat = j + 1 := (by omega); have c1 := b5C (s.drop (j + 1)) b1; have c2 := a8C (s.take j) b2; have t1 := Z1 (s.drop (j + 1)); have t2 := Z1 (s.take j); have c3 := b8Q (E6 (s.drop (j + 1))) (by omega); have c4 := a9j (E6 (s.take j)) (by omega); have hvl := a6r _ (E6 (s.drop (j + 1))) (Nat.le_refl _); simp -implicitDefEqProofs [hx, i0, i1, j1, htk]; (repeat refine ai (by omega) ?_); refine A1 c1 ?_; simp -implicitDefEqProofs; refine A1 c3 ?_; generalize E6 (s.drop (j + 1)) = T at *; cases hv : M6 T with
  | none =>
    simp -implicitDefEqProofs [a0a, hv]; (repeat refine ai (by omega) ?_); refine A1 c2 ?_; generalize E6 (s.take j) = K at *; simp -implicitDefEqProofs; simp [F9]
  | some v =>
    have hv2 := hvl v hv; have c5 := a7G v (by omega); rw [a7J] at c5; simp -implicitDefEqProofs [a0a, hv]; (repeat refine ai (by omega) ?_); refine A1 c2 ?_; generalize E6 (s.take j) = K at *; simp -implicitDefEqProofs; refine A1 c4 ?_; by_cases hn : M0 K = true
    · simp -implicitDefEqProofs [hn]; refine A1 c5 ?_; by_cases hc : J7 v = true
      · simp -implicitDefEqProofs [hc]; simp [F9]
      · simp -implicitDefEqProofs [hc]; simp [F9]
    · simp -implicitDefEqProofs [hn]; simp [F9]
theorem b8F (s : Str) (hs : List.length s < 1000000) : Ctr prog 136 [.d (.str s)] (.tup [.d (F9 (a4D s).1), .d (.int .i64 (a4D s).2)]) := by
  refine H1 (rv := .cell 2 121) (rs := [.tmp 3]) (r := .d (F9 (a4D s).1)) (ys := [.d (.int .i64 (a4D s).2)]) (fun _ => false) (by kernel_rfl) func136 (by kernel_rfl) rfl rfl (by simp) (nbl rfl) (by kernel_rfl) rfl rfl ?_; simp -implicitDefEqProofs; refine A1 (a9m s 61 hs) ?_; by_cases hlt : D2 61 s < s.length
  case neg =>
    have hx : (List.length s : Int) ≤ (D2 61 s : Int) := (by omega); simp -implicitDefEqProofs [hx]; simp [a4D, hlt, F9]
  unfold a4D; rw [if_pos hlt]; have b1 : List.length (s.drop (D2 61 s + 1)) < 1000000 := by simp; omega
  have b2 : List.length (s.take (D2 61 s)) < 1000000 := by simp; omega
  generalize hj : D2 61 s = j at *; have htk : List.take (List.length s - (j + 1)) (List.drop (j + 1) s) = List.drop (j + 1) s := ttl (by simp); have i0 : ¬ (List.length s : Int) ≤ (j : Int) := (by omega); have i00 : ¬ List.length s ≤ j := (by omega); have i1 : (0 : Int) ≤ (j : Int) + 1 := (by omega); have j1 : ((j : Int) + 1).toNat = j + 1 := (by omega); have c1 := a7Q (s.drop (j + 1)) b1; have c2 := a7Q (s.take j) b2; have t1 := Z1 (s.drop (j + 1)); have t2 := Z1 (s.take j); have c3 := b7F (E6 (s.drop (j + 1))) (by omega); have c4 := b6a (E6 (s.take j)); have hvl := a6f _ (E6 (s.drop (j + 1))) (Nat.le_refl _); simp -implicitDefEqProofs [i0, i00, i1, j1, htk]; (repeat refine ai (by omega) ?_); refine A1 c1 ?_; simp -implicitDefEqProofs; refine A1 c3 ?_; generalize E6 (s.drop (j + 1)) = T at *; cases hv : M4 T with
  | none =>
    simp -implicitDefEqProofs [a0a, hv]; simp [F9]
  | some v =>
    have hv2 := hvl v hv; have c5 := b4x v; simp -implicitDefEqProofs [a0a, hv]; (repeat refine ai (by omega) ?_); refine A1 c2 ?_; generalize E6 (s.take j) = K at *; simp -implicitDefEqProofs; refine A1 c4 ?_; by_cases hn : M0 K = true
    · simp -implicitDefEqProofs [hn]; refine A1 c5 ?_; by_cases hc : J7 v = true
      · simp -implicitDefEqProofs [hc]; simp [F9]
      · simp -implicitDefEqProofs [hc]; simp [F9]
    · simp -implicitDefEqProofs [hn]; simp [F9]
theorem b4m : ∀ (n : Nat) (s : Str), s.length ≤ n → (N0 s).length ≤ s.length + 1 ∧ ∀ p ∈ N0 s, p.length ≤ s.length := by
  intro n
  induction n with
  | zero =>
    intro s hn; have : s = [] := List.length_eq_zero_iff.1 (by omega); subst this; rw [Z9 (by simp)]; simp
  | succ n ih =>
    intro s hn; by_cases h : D2 44 s < s.length
    · rw [a2c h]; obtain ⟨h1, h2⟩ := ih (s.drop (D2 44 s + 1)) (by simp only [List.length_drop]; omega); simp only [List.length_drop] at h1 h2; refine ⟨by simp only [List.length_cons]; omega, fun p hp => ?_⟩; rcases List.mem_cons.1 hp with rfl | hp
      · simp only [List.length_take]; omega
      · have := h2 p hp; omega
    · rw [Z9 h]; simp
theorem b5L {out : List F6} {ps : List Str} {k : Nat} (h : k < ps.length) : K9 out (ps.drop k) = if (Q6 ps[k]).2 = 0 then K9 (out ++ [(Q6 ps[k]).1]) (ps.drop (k + 1)) else ([], (Q6 ps[k]).2) := by
  rw [Z7 h]; rfl
theorem b2R (s : Str) (hs : List.length s < 900000) : Ctr prog 132 [.d (.str s)] (.tup [.d (G1 (C8 s).1), .d (.int .i64 (C8 s).2)]) := by
  refine H1 (rv := .tmp 2) (rs := [.tmp 3]) (r := .d (G1 (C8 s).1)) (ys := [.d (.int .i64 (C8 s).2)]) (fun _ => false) (by kernel_rfl) func132 (by kernel_rfl) rfl rfl (by simp) (nbl rfl) (by kernel_rfl) rfl rfl ?_; by_cases hnil : s = []
  · simp -implicitDefEqProofs [hnil, C8, G1]
  have hP : C8 s = K9 [] (N0 s) := by rw [C8, if_neg hnil]
  have c1 := b7b s (by omega); obtain ⟨b1, b2⟩ := b4m _ s (Nat.le_refl _); rw [hP]; generalize N0 s = ps at *; obtain ⟨R, hR⟩ : ∃ R, K9 [] ps = R := ⟨_, rfl⟩; rw [hR]; simp -implicitDefEqProofs [hnil]; refine A1 c1 ?_; simp -implicitDefEqProofs; refine H2 ps.length (fun k τ => τ 12 = .own false 9 (ps.map .str) ∧ τ 13 = .d (.int .i64 ps.length) ∧ τ 14 = .d (.int .i64 k) ∧ ∃ out : List F6, out.length = k ∧ τ 4 = .own false 121 (out.map F9) ∧ K9 out (ps.drop k) = R) ?_ ?_
  · exact ⟨by simp, by simp, by simp, [], rfl, by simp, by simpa using hR⟩
  rintro k τ hk ⟨h12, h13, h14, out, ho, h4, hI⟩; by_cases hlt : k < ps.length
  · have hlt' : (k : Int) < ps.length := (by omega); rw [b5L hlt] at hI; have hb := b2 _ (gmm hlt); have c2 := c1f ps[k] (by omega); simp -implicitDefEqProofs [h12, h13, h14, h4, hlt, hlt']; refine A1 c2 ?_; generalize Q6 ps[k] = C at *; obtain ⟨⟨n, v⟩, e⟩ := C; by_cases he : e = 0
    · rw [if_pos he] at hI; simp -implicitDefEqProofs [h12, h13, h14, h4, hlt, hlt', he, F9]; (repeat refine ai (by omega) ?_); exact D7 hlt ⟨by simp [h12], by simp [h13], by simp, out ++ [(n, v)], by simp [ho], by simp [F9], hI⟩
    · rw [if_neg he] at hI; subst hI; simp -implicitDefEqProofs [h12, h13, h14, h4, hlt, hlt', he, F9]; simp [G1]
  · have hlt' : ¬ (k : Int) < ps.length := (by omega); rw [List.drop_eq_nil_of_le (by omega), K9] at hI; by_cases h8 : 8 < out.length
    · rw [if_pos h8] at hI; subst hI; have h8' : (8 : Int) < out.length := (by omega); simp -implicitDefEqProofs [h12, h13, h14, h4, hlt, hlt', h8', G1]; try omega
    · rw [if_neg h8] at hI; subst hI; have h8' : ¬ (8 : Int) < out.length := (by omega); simp -implicitDefEqProofs [h12, h13, h14, h4, hlt, hlt', h8', G1]; try omega
def NpI (R : List F6 × Int) (s : Str) (m : Nat) (τ : St) : Prop := ∃ (rest : Str) (W7 : Bool) (out : List F6), m = (if W7 = true then List.length rest + 1 else 0) ∧ τ 5 = .d (.str rest) ∧ τ 6 = .d (.bool W7) ∧ τ 4 = .own false 121 (out.map F9) ∧
  List.length rest ≤ List.length s ∧ out.length ≤ List.length s + 1 - (if W7 = true then List.length rest + 1 else 0) + 0 ∧ K9 out (if W7 = true then N0 rest else []) = R
theorem b0w (s : Str) (hs : List.length s < 900000) : Ctr prog 95 [.d (.str s)] (.tup [.d (G1 (C8 s).1), .d (.int .i64 (C8 s).2)]) := by
  refine H1 (rv := .tmp 2) (rs := [.tmp 3]) (r := .d (G1 (C8 s).1)) (ys := [.d (.int .i64 (C8 s).2)]) (fun _ => false) (by kernel_rfl) func95 (by kernel_rfl) rfl rfl (by simp) (nbl rfl) (by kernel_rfl) rfl rfl ?_; obtain ⟨R, hR⟩ : ∃ R, C8 s = R := ⟨_, rfl⟩; rw [hR]; have hP : K9 [] (if (!decide (s = [])) = true then N0 s else []) = R := by
    rw [← hR, C8]; by_cases h : s = []
    · simp [h, K9]
    · simp [h]
  simp -implicitDefEqProofs; refine a3p (NpI R s) (if (!decide (s = [])) = true then List.length s + 1 else 0) ⟨s, !decide (s = []), [], rfl, by simp, by simp, by simp, by omega, by simp, hP⟩ ?_; clear hP hR; rintro m τ ⟨rest, W7, out, rfl, h5, h6, h4, hl, ho, hI⟩; cases W7 with
  | false =>
    simp only [Bool.false_eq_true, if_false, K9] at hI ho; by_cases h8 : 8 < out.length
    · rw [if_pos h8] at hI; subst hI; have h8' : (8 : Int) < out.length := (by omega); simp -implicitDefEqProofs [h5, h6, h4, h8', G1]; try omega
    · rw [if_neg h8] at hI; subst hI; have h8' : ¬ (8 : Int) < out.length := (by omega); simp -implicitDefEqProofs [h5, h6, h4, h8', G1]; try omega
  | true =>
    simp only [if_true] at hI ho; have hno := b9y _ rest (Nat.le_refl _); have hle := a9e 44 rest; have hbl : List.length (rest.take (D2 44 rest)) < 1000000 := by simp; omega
    have c1 := b8F (rest.take (D2 44 rest)) hbl; by_cases hlt : D2 44 rest < rest.length
    · rw [a2c hlt] at hI hno; rw [b4L (hno _ (by simp))] at c1; simp only [K9] at hI; simp -implicitDefEqProofs [h5, h6, h4]; refine A1 (a9m rest 44 (by omega)) ?_; generalize D2 44 rest = j at *; have htk : List.take (List.length rest - (j + 1)) (List.drop (j + 1) rest) = List.drop (j + 1) rest := ttl (by simp); have i1 : (0 : Int) ≤ (j : Int) + 1 := (by omega); have j1 : ((j : Int) + 1).toNat = j + 1 := (by omega); have hlt' : (j : Int) < List.length rest := (by omega); have hdl : List.length (rest.drop (j + 1)) = List.length rest - (j + 1) := (by simp); simp -implicitDefEqProofs [h5, h6, h4]; (repeat refine ai (by omega) ?_); refine A1 c1 ?_; generalize Q6 (rest.take j) = C at *; obtain ⟨⟨n, v⟩, e⟩ := C; by_cases he : e = 0
      · simp only [he, if_true] at hI; simp -implicitDefEqProofs [h5, h6, h4, he, F9, hlt', hlt, i1, j1, htk]; (repeat refine ai (by omega) ?_); refine ⟨List.length (rest.drop (j + 1)) + 1, by omega, rest.drop (j + 1), true, out ++ [(n, v)], by simp, by simp, by simp, by simp [F9], by omega, by simp; omega, by simpa using hI⟩
      · simp only [he, if_false] at hI; subst hI; simp -implicitDefEqProofs [h5, h6, h4, he, F9, G1]
    · have hje : D2 44 rest = List.length rest := (by omega); rw [Z9 hlt] at hI hno; have hte : rest.take (D2 44 rest) = rest := by rw [hje]; simp
      rw [hte, b4L (hno rest (by simp))] at c1; simp only [K9] at hI; simp -implicitDefEqProofs [h5, h6, h4]; refine A1 (a9m rest 44 (by omega)) ?_; rw [hje]; simp -implicitDefEqProofs [h5, h6, h4]; refine A1 c1 ?_; generalize Q6 rest = C at *; obtain ⟨⟨n, v⟩, e⟩ := C; by_cases he : e = 0
      · simp only [he, if_true] at hI; simp -implicitDefEqProofs [h5, h6, h4, he, F9]; (repeat refine ai (by omega) ?_); refine ⟨0, by omega, rest, false, out ++ [(n, v)], by simp, by simp [h5], by simp, by simp [F9], by omega, by simp; omega, by simpa [K9] using hI⟩
      · simp only [he, if_false] at hI; subst hI; simp -implicitDefEqProofs [h5, h6, h4, he, F9, G1]
end Go.Proofs.Tz