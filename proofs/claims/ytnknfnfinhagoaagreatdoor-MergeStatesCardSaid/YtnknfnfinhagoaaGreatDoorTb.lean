/-
  What the functions that the statements about merged states reach compute, part 2 of 6, for data of bounded size (each theorem states its bound).
-/import Derived.Test.YtnknfnfinhagoaaGreatDoorTa
open List
open Go.Proofs.Tryz
set_option linter.unusedSimpArgs false
set_option linter.unusedVariables false
set_option maxRecDepth 100000
set_option maxHeartbeats 4000000
namespace Go.Proofs.Tz
open Go.Vw Go.RowKit Go.Proofs
def dT (c : UInt8) (k : Nat) : Int := if 0 <= ixB G3 c /\ ixB G3 c < k then ixB G3 c else -1
theorem c5g (c : UInt8) : dT c 0 = -1 := by unfold dT; rw [if_neg (by omega)]
theorem c5Y (c : UInt8) : dT c 16 = ixB G3 c := by
 unfold dT; by_cases h : ixB G3 c < 0
 . have : -1 <= ixB G3 c := Go.Lib.indexByte_ge G3 c; rw [if_neg (by omega)]; omega
 . have := (a3Z h).2; rw [if_pos (by omega)]
theorem c7t {k : Nat} (hk : k < 16) : G3[k]? = some (Z6 k) := by
 unfold Z6; rw [getD_eq_getElem?_getD, getElem?_eq_getElem (by simpa using hk)]; rfl
theorem c6c {c : UInt8} {k : Nat} (hk : k < 16) (h : Z6 k = c) : dT c (k + 1) = k := by
 have := b6R k hk; rw [h] at this; unfold dT; rw [this, if_pos (by omega)]
theorem c4V {c : UInt8} {k : Nat} (hk : k < 16) (h : Z6 k ≠ c) : dT c (k + 1) = dT c k := by
 have hne : ixB G3 c ≠ k := fun e => by
   have := (a3Z (c := c) (by omega)).1; rw [e, Int.toNat_natCast] at this; exact h this
 unfold dT; by_cases h1 : 0 <= ixB G3 c /\ ixB G3 c < k
 . rw [if_pos h1, if_pos (by omega)]
 . rw [if_neg h1, if_neg (by omega)]
theorem a5X (s : Str) (hs : s.length <= 12) : Ctr prog 128 [.d (.str s)] (.d (.int .i64 (a1J s))) := by
 refine fv (fun _ => false) func128 (by kernel_rfl) rfl rfl rfl rfl rfl ?_; obtain ⟨R, hR⟩ : ∃ R, a1J s = R := ⟨_, rfl⟩; rw [hR]; simp -implicitDefEqProofs; refine F3 s.length (fun k τ => τ 0 = .d (.str s) /\ τ 4 = .d (.int .i64 k) /\ τ 3 = .d (.int .i64 (Z4 s k)) /\ 0 <= Z4 s k) ⟨by simp, by simp, by simp [Z4, R3], by simp [Z4, R3]⟩ ?_; rintro k τ hk ⟨h0, h4, h3, hI⟩; by_cases hlt : k < s.length
 . have hlt' : (k : Int) < s.length := (by omega); have hb := b4T hlt hI; have hs1 := a8a hlt hI; have hlt9 := b7g (k := k) hs; have hix : ¬ ixB G3 s[k] < 0 -> (ixB G3 s[k]).toNat < 16 := fun h => (a3Z h).2
   have hd0 := c5g s[k]; have hd16 := c5Y s[k]; have hhit := fun j (hj : j < 16) => @c6c s[k] j hj
   have hmiss := fun j (hj : j < 16) => @c4V s[k] j hj
   generalize hN : Z4 s k = N at *; generalize hc : s[k] = c at *; generalize hX : ixB G3 c = X at *; simp -implicitDefEqProofs [h0, h4, h3, hlt, hlt', hc]; (repeat refine ai (by omega) ?_); refine F3 16 (fun j τ => τ 0 = .d (.str s) /\ τ 4 = .d (.int .i64 k) /\ τ 3 = .d (.int .i64 N) /\ τ 6 = .d (.int .i64 j) /\ τ 5 = .d (.int .i64 (dT c j))) ⟨by simp [h0], by simp [h4], by simp [h3], by simp, by simp [hd0]⟩ ?_; clear h0 h4 h3 τ; rintro j τ hj ⟨h0, h4, h3, h6, h5⟩; by_cases hjl : j < 16
   . have hjl' : (j : Int) < 16 := (by omega); have hget : ([48, 49, 50, 51, 52, 53, 54, 55, 56, 57, 97, 98, 99, 100, 101, 102] : Str)[j]'(by simpa using hjl) = Z6 j := by
       have := c7t hjl; simp only [G3] at this; rw [getElem?_eq_getElem (by simpa using hjl)] at this; exact Option.some.inj this
     by_cases he : Z6 j = c
     . have h1 := hhit j hjl he; have he' : ((Z6 j).toNat : Int) = c.toNat := by rw [he]
       simp -implicitDefEqProofs [h0, h4, h3, h6, h5, hlt, hlt', hjl, hjl', hget, he', hc]; (repeat refine ai (by omega) ?_); refine B8 hjl ⟨by simp [h0], by simp [h4], by simp [h3], by simp, by simp [h1]⟩
     . have h1 := hmiss j hjl he; have he' : ¬ ((Z6 j).toNat : Int) = c.toNat := fun e => he (UInt8.toNat_inj.1 (by omega))
       have he2 : ¬ (Z6 j).toNat = c.toNat := fun e => he (UInt8.toNat_inj.1 e)
       simp -implicitDefEqProofs [h0, h4, h3, h6, h5, hlt, hlt', hjl, hjl', hget, he', hc]; (repeat refine ai (by omega) ?_); refine B8 hjl ⟨by simp [h0], by simp [h4], by simp [h3], by simp, by simp [h5, h1]⟩
   . have hjl' : ¬ (j : Int) < 16 := (by omega); obtain rfl : j = 16 := by omega
     rw [hd16] at h5; by_cases hn : X < 0
     . rw [hb hn] at hR; subst hR; simp -implicitDefEqProofs [h0, h4, h3, h6, h5, hn]
     . rw [if_neg hn] at hs1; have hx16 := hix hn; simp -implicitDefEqProofs [h0, h4, h3, h6, h5, hn]; (repeat refine ai (by omega) ?_); refine B8 hlt ⟨by simp [h0], by simp, ?_, by omega⟩; simp [hs1]; try omega
 . have hlt' : ¬ (k : Int) < s.length := (by omega); have he : Z4 s k = R := by
     rw [<- hR]; unfold Z4 a1J; rw [ttl (by omega)]
   rw [he] at h3; simp -implicitDefEqProofs [h0, h4, h3, hlt, hlt']
theorem a4Z (c : Csn) : Ctr prog 36 [.d (A4 c)] (.d (.str (G8 c))) := by
 refine fv (fun _ => false) func36 (by kernel_rfl) rfl rfl rfl rfl rfl ?_; have c0 := a7m c; obtain ⟨t, s, r⟩ := c; unfold G8; by_cases hv : M9 (t, s, r) = true
 . have hv' := a6t.1 hv; simp only at hv'; rw [hv] at c0; rw [if_pos hv]; obtain ⟨t', rfl⟩ := Int.eq_ofNat_of_zero_le hv'.1; obtain ⟨s', rfl⟩ := Int.eq_ofNat_of_zero_le hv'.2.2.1; obtain ⟨r', rfl⟩ := Int.eq_ofNat_of_zero_le hv'.2.2.2.2.1; have c1 := b5g t' 11 (by omega) (by omega); have c2 := b5g s' 8 (by omega) (by omega); have c3 := b5g r' 1 (by omega) (by omega); have l1 := W0 11 t'; have l2 := W0 8 s'; have l3 := W0 1 r'; simp only [Int.ofNat_eq_natCast, Int.toNat_natCast]; generalize M7 t' 11 = A at *; generalize M7 s' 8 = B at *; generalize M7 r' 1 = C at *; simp only [A4] at c0; simp -implicitDefEqProofs [A4]; refine A0 c0 ?_; simp -implicitDefEqProofs; refine B6 c1 ?_; simp -implicitDefEqProofs; (repeat refine ai (by omega) ?_); refine B6 c2 ?_; simp -implicitDefEqProofs; (repeat refine ai (by omega) ?_); refine B6 c3 ?_; simp -implicitDefEqProofs; repeat refine ai (by omega) ?_
   first | done | omega
 . have hv' : M9 (t, s, r) = false := (by simpa using hv); rw [hv'] at c0; rw [if_neg hv]; simp only [A4] at c0; simp -implicitDefEqProofs [A4]; refine A0 c0 ?_; simp -implicitDefEqProofs
theorem b8B (c : Csn) : Ctr prog 216 [.d (A4 c)] (.d (.str (G8 c))) := by
 refine fv (fun _ => false) func216 (by kernel_rfl) rfl rfl rfl rfl rfl ?_; have c0 := a6b c; obtain ⟨t, s, r⟩ := c; unfold G8; by_cases hv : M9 (t, s, r) = true
 . have hv' := a6t.1 hv; simp only at hv'; rw [hv] at c0; rw [if_pos hv]; obtain ⟨t', rfl⟩ := Int.eq_ofNat_of_zero_le hv'.1; obtain ⟨s', rfl⟩ := Int.eq_ofNat_of_zero_le hv'.2.2.1; obtain ⟨r', rfl⟩ := Int.eq_ofNat_of_zero_le hv'.2.2.2.2.1; have c1 := b1P t' 11 (by omega) (by omega); have c2 := b1P s' 8 (by omega) (by omega); have c3 := b1P r' 1 (by omega) (by omega); have l1 := W0 11 t'; have l2 := W0 8 s'; have l3 := W0 1 r'; simp only [Int.ofNat_eq_natCast, Int.toNat_natCast]; generalize M7 t' 11 = A at *; generalize M7 s' 8 = B at *; generalize M7 r' 1 = C at *; simp only [A4] at c0; simp -implicitDefEqProofs [A4]; refine A0 c0 ?_; simp -implicitDefEqProofs; refine B6 c1 ?_; simp -implicitDefEqProofs; (repeat refine ai (by omega) ?_); refine B6 c2 ?_; simp -implicitDefEqProofs; (repeat refine ai (by omega) ?_); refine B6 c3 ?_; simp -implicitDefEqProofs; repeat refine ai (by omega) ?_
   first | done | omega
 . have hv' : M9 (t, s, r) = false := (by simpa using hv); rw [hv'] at c0; rw [if_neg hv]; simp only [A4] at c0; simp -implicitDefEqProofs [A4]; refine A0 c0 ?_; simp -implicitDefEqProofs
theorem b6f (s : Str) (hs : List.length s < 1000000) : Ctr prog 53 [.d (.str s)] (.tup [.d (A4 (J5 s).1), .d (.int .i64 (J5 s).2)]) := by
 refine G6 (rv := .cell 2 32) (rs := [.tmp 3]) (r := .d (A4 (J5 s).1)) (ys := [.d (.int .i64 (J5 s).2)]) (fun i => i == 9000003) (by kernel_rfl) func53 (by kernel_rfl) rfl rfl (by simp) (nbl rfl) (by kernel_rfl) rfl rfl ?_; obtain ⟨R, hR⟩ : ∃ R, J5 s = R := ⟨_, rfl⟩; rw [hR]; unfold J5 at hR; by_cases hl : s.length = 22
 case neg =>
   have hl' : ¬ (s.length : Int) = 22 := (by omega); rw [if_pos (.inl hl)] at hR; subst hR; simp -implicitDefEqProofs [hl', A4]
 have g11 := getElem?_eq_getElem (show 11 < s.length by omega); have g20 := getElem?_eq_getElem (show 20 < s.length by omega); generalize hx11 : s[11]'(by omega) = x11 at *; generalize hx20 : s[20]'(by omega) = x20 at *; by_cases h1 : x11 = 45
 case neg =>
   have h1' : ¬ (x11.toNat : Int) = 45 := fun e => h1 (UInt8.toNat_inj.1 (show x11.toNat = (45 : UInt8).toNat by simp; omega))
   rw [if_pos (.inr (.inl (by rw [g11]; simpa using h1)))] at hR; subst hR; simp -implicitDefEqProofs [hl, hx11, h1', A4]
 by_cases h2 : x20 = 45
 case neg =>
   have h2' : ¬ (x20.toNat : Int) = 45 := fun e => h2 (UInt8.toNat_inj.1 (show x20.toNat = (45 : UInt8).toNat by simp; omega))
   rw [if_pos (.inr (.inr (by rw [g20]; simpa using h2)))] at hR; subst hR; simp -implicitDefEqProofs [hl, hx11, hx20, h1, h2', A4]
 subst h1 h2; rw [if_neg (by rw [g11, g20]; simp [hl])] at hR; have c1 := a8y (s.take 11) (by simp; omega); have c2 := a8y ((s.take 20).drop 12) (by simp; omega); have c3 := a8y (s.drop 21) (by simp; omega); have c4 := a7m (a1H s); obtain ⟨a, ha⟩ : ∃ a, a1H s = a := ⟨_, rfl⟩; have ha' := ha; unfold a1H at ha'; rw [ha] at hR c4; obtain ⟨p, q, r⟩ := a; simp only [Prod.mk.injEq] at ha'; obtain ⟨e1, e2, e3⟩ := ha'; rw [e1] at c1; rw [e2] at c2; rw [e3] at c3; rw [drop_take] at c2; rw [show s.drop 21 = (s.drop 21).take 1 from (ttl (by simp; omega)).symm] at c3; simp only at hR; simp only [A4] at c4; by_cases hp : p < 0
 . rw [if_pos (.inl hp)] at hR; subst hR; simp -implicitDefEqProofs [hl, hx11, hx20, A4]; refine B6 c1 ?_; simp -implicitDefEqProofs [hl]; refine B6 c2 ?_; simp -implicitDefEqProofs [hl]; refine B6 c3 ?_; simp -implicitDefEqProofs [hp]
 by_cases hq : q < 0
 . rw [if_pos (.inr (.inl hq))] at hR; subst hR; simp -implicitDefEqProofs [hl, hx11, hx20, A4]; refine B6 c1 ?_; simp -implicitDefEqProofs [hl]; refine B6 c2 ?_; simp -implicitDefEqProofs [hl]; refine B6 c3 ?_; simp -implicitDefEqProofs [hp, hq]
 by_cases hr : r < 0
 . rw [if_pos (.inr (.inr hr))] at hR; subst hR; simp -implicitDefEqProofs [hl, hx11, hx20, A4]; refine B6 c1 ?_; simp -implicitDefEqProofs [hl]; refine B6 c2 ?_; simp -implicitDefEqProofs [hl]; refine B6 c3 ?_; simp -implicitDefEqProofs [hp, hq, hr]
 rw [if_neg (by omega)] at hR; by_cases hv : M9 (p, q, r) = true
 . rw [if_neg (by rw [hv]; simp)] at hR; subst hR; rw [hv] at c4; simp -implicitDefEqProofs [hl, hx11, hx20, A4]; refine B6 c1 ?_; simp -implicitDefEqProofs [hl]; refine B6 c2 ?_; simp -implicitDefEqProofs [hl]; refine B6 c3 ?_; simp -implicitDefEqProofs [hp, hq, hr]; refine A0 c4 ?_; simp -implicitDefEqProofs
 . have hv' : M9 (p, q, r) = false := (by simpa using hv); rw [if_pos hv'] at hR; subst hR; rw [hv'] at c4; simp -implicitDefEqProofs [hl, hx11, hx20, A4]; refine B6 c1 ?_; simp -implicitDefEqProofs [hl]; refine B6 c2 ?_; simp -implicitDefEqProofs [hl]; refine B6 c3 ?_; simp -implicitDefEqProofs [hp, hq, hr]; refine A0 c4 ?_; simp -implicitDefEqProofs
theorem b5k (s : Str) (hs : List.length s < 1000000) : Ctr prog 83 [.d (.str s)] (.tup [.d (A4 (J5 s).1), .d (.int .i64 (J5 s).2)]) := by
 refine G6 (rv := .cell 2 32) (rs := [.tmp 3]) (r := .d (A4 (J5 s).1)) (ys := [.d (.int .i64 (J5 s).2)]) (fun i => i == 9000003) (by kernel_rfl) func83 (by kernel_rfl) rfl rfl (by simp) (nbl rfl) (by kernel_rfl) rfl rfl ?_; obtain ⟨R, hR⟩ : ∃ R, J5 s = R := ⟨_, rfl⟩; rw [hR]; unfold J5 at hR; by_cases hl : s.length = 22
 case neg =>
   have hl' : ¬ (s.length : Int) = 22 := (by omega); rw [if_pos (.inl hl)] at hR; subst hR; simp -implicitDefEqProofs [hl', A4]
 have g11 := getElem?_eq_getElem (show 11 < s.length by omega); have g20 := getElem?_eq_getElem (show 20 < s.length by omega); generalize hx11 : s[11]'(by omega) = x11 at *; generalize hx20 : s[20]'(by omega) = x20 at *; by_cases h1 : x11 = 45
 case neg =>
   have h1' : ¬ (x11.toNat : Int) = 45 := fun e => h1 (UInt8.toNat_inj.1 (show x11.toNat = (45 : UInt8).toNat by simp; omega))
   rw [if_pos (.inr (.inl (by rw [g11]; simpa using h1)))] at hR; subst hR; simp -implicitDefEqProofs [hl, hx11, h1', A4]
 by_cases h2 : x20 = 45
 case neg =>
   have h2' : ¬ (x20.toNat : Int) = 45 := fun e => h2 (UInt8.toNat_inj.1 (show x20.toNat = (45 : UInt8).toNat by simp; omega))
   rw [if_pos (.inr (.inr (by rw [g20]; simpa using h2)))] at hR; subst hR; simp -implicitDefEqProofs [hl, hx11, hx20, h1, h2', A4]
 subst h1 h2; rw [if_neg (by rw [g11, g20]; simp [hl])] at hR; have c1 := a5X (s.take 11) (by simp; omega); have c2 := a5X ((s.take 20).drop 12) (by simp; omega); have c3 := a5X (s.drop 21) (by simp; omega); have c4 := a6b (a1H s); obtain ⟨a, ha⟩ : ∃ a, a1H s = a := ⟨_, rfl⟩; have ha' := ha; unfold a1H at ha'; rw [ha] at hR c4; obtain ⟨p, q, r⟩ := a; simp only [Prod.mk.injEq] at ha'; obtain ⟨e1, e2, e3⟩ := ha'; rw [e1] at c1; rw [e2] at c2; rw [e3] at c3; rw [drop_take] at c2; rw [show s.drop 21 = (s.drop 21).take 1 from (ttl (by simp; omega)).symm] at c3; simp only at hR; simp only [A4] at c4; by_cases hp : p < 0
 . rw [if_pos (.inl hp)] at hR; subst hR; simp -implicitDefEqProofs [hl, hx11, hx20, A4]; refine B6 c1 ?_; simp -implicitDefEqProofs [hl]; refine B6 c2 ?_; simp -implicitDefEqProofs [hl]; refine B6 c3 ?_; simp -implicitDefEqProofs [hp]
 by_cases hq : q < 0
 . rw [if_pos (.inr (.inl hq))] at hR; subst hR; simp -implicitDefEqProofs [hl, hx11, hx20, A4]; refine B6 c1 ?_; simp -implicitDefEqProofs [hl]; refine B6 c2 ?_; simp -implicitDefEqProofs [hl]; refine B6 c3 ?_; simp -implicitDefEqProofs [hp, hq]
 by_cases hr : r < 0
 . rw [if_pos (.inr (.inr hr))] at hR; subst hR; simp -implicitDefEqProofs [hl, hx11, hx20, A4]; refine B6 c1 ?_; simp -implicitDefEqProofs [hl]; refine B6 c2 ?_; simp -implicitDefEqProofs [hl]; refine B6 c3 ?_; simp -implicitDefEqProofs [hp, hq, hr]
 rw [if_neg (by omega)] at hR; by_cases hv : M9 (p, q, r) = true
 . rw [if_neg (by rw [hv]; simp)] at hR; subst hR; rw [hv] at c4; simp -implicitDefEqProofs [hl, hx11, hx20, A4]; refine B6 c1 ?_; simp -implicitDefEqProofs [hl]; refine B6 c2 ?_; simp -implicitDefEqProofs [hl]; refine B6 c3 ?_; simp -implicitDefEqProofs [hp, hq, hr]; refine A0 c4 ?_; simp -implicitDefEqProofs
 . have hv' : M9 (p, q, r) = false := (by simpa using hv); rw [if_pos hv'] at hR; subst hR; rw [hv'] at c4; simp -implicitDefEqProofs [hl, hx11, hx20, A4]; refine B6 c1 ?_; simp -implicitDefEqProofs [hl]; refine B6 c2 ?_; simp -implicitDefEqProofs [hl]; refine B6 c3 ?_; simp -implicitDefEqProofs [hp, hq, hr]; refine A0 c4 ?_; simp -implicitDefEqProofs
end Go.Proofs.Tz
namespace Go.Proofs.Tz
open Go.Vw
theorem a9P (s : Str) : Ctr prog 88 [.d (.str s)] (.d (.bool (I9 s))) := by
 refine fv (fun _ => false) func88 (by kernel_rfl) rfl rfl rfl rfl rfl ?_; by_cases hs : s = []
 . simp -implicitDefEqProofs [I9, hs]
 have hpos : 0 < List.length s := by
   cases s with
   | nil => exact absurd rfl hs
   | cons => simp
 have h1 : ¬ ((List.length s : Int) < 1) := (by omega); have hh : s.head? = some s[0] := (by simp [head?_eq_getElem?, hpos]); have hl : s.getLast? = some s[List.length s - 1] := by rw [getLast?_eq_getElem?, getElem?_eq_getElem (by omega)]
 have hi : 0 <= (List.length s : Int) - 1 := (by omega); have hi2 : ((List.length s : Int) - 1).toNat = List.length s - 1 := (by omega); have hi3 : List.length s - 1 < List.length s := (by omega); have hi4 : -9223372036854775808 <= (List.length s : Int) - 1 := (by omega); by_cases h2 : 256 < (List.length s : Int)
 . have : ¬ List.length s <= 256 := (by omega); simp -implicitDefEqProofs [I9, h1, h2, this]
 have h2' : List.length s <= 256 := (by omega); have h1' : 1 <= List.length s := hpos; have hi5 : (List.length s : Int) - 1 <= 9223372036854775807 := (by omega); by_cases ha : (s[0].toNat : Int) = 32
 . have : s[0] = 32 := by apply UInt8.toNat_inj.1; rw [show (32 : UInt8).toNat = 32 from rfl]; omega
   simp -implicitDefEqProofs [I9, h1, h2, hpos, ha, hh, this]
 have ha' : ¬ s[0] = 32 := fun e => ha (by rw [e]; rfl)
 by_cases hb : (s[List.length s - 1].toNat : Int) = 32
 . have : s[List.length s - 1] = 32 := by apply UInt8.toNat_inj.1; rw [show (32 : UInt8).toNat = 32 from rfl]; omega
   simp -implicitDefEqProofs [I9, h1, h2, hpos, ha, hh, hl, hb, hi, hi2, hi3, hi4, hi5, this]
   all_goals omega
 have hb' : ¬ s[List.length s - 1] = 32 := fun e => hb (by rw [e]; rfl)
 simp -implicitDefEqProofs [h1, h2, hpos, ha, hb, hi, hi2, hi3, hi4, hi5]; refine ⟨by omega, ?_⟩; refine F3 (List.length s) (fun k τ => τ 0 = .d (.str s) /\ τ 3 = .d (.int .i64 k) /\ ∀ x ∈ s.take k, U8 x = true) (by simp) ?_; rintro k τ hk ⟨h0, h3, hall⟩; by_cases hlt : k < List.length s
 . by_cases e1 : (s[k].toNat : Int) < 32
   . have e1' : ¬ 32 <= (s[k].toNat : Int) := (by omega); simp -implicitDefEqProofs [h0, h3, hlt, e1]; simp -implicitDefEqProofs [I9, a4b hlt (show U8 s[k] = false by simp [U8, e1'])]
   . by_cases e2 : 126 < (s[k].toNat : Int)
     . have e2' : ¬ (s[k].toNat : Int) <= 126 := (by omega); simp -implicitDefEqProofs [h0, h3, hlt, e1, e2]; simp -implicitDefEqProofs [I9, a4b hlt (show U8 s[k] = false by simp [U8, e2'])]
     . have e1' : 32 <= (s[k].toNat : Int) := (by omega); have e2' : (s[k].toNat : Int) <= 126 := (by omega); simp -implicitDefEqProofs [h0, h3, hlt, e1, e2]; refine ⟨by omega, B8 hlt ⟨by simp [h0], by simp, ?_⟩⟩; exact a3a hlt hall (by simp [U8, e1', e2'])
 . simp -implicitDefEqProofs [h0, h3, hlt]; rw [ttl (by omega)] at hall; simp -implicitDefEqProofs [I9, h1', h2', hh, hl, ha', hb']; exact hall
theorem c4E (l m : List Str) (hl : l.length < 1000000) (hm : m.length < 1000000) : Ctr prog 111 [.d (B0 l), .d (B0 m)] (.d (.bool (decide (l = m)))) := by
 refine fv (fun _ => false) func111 (by kernel_rfl) rfl rfl rfl rfl rfl ?_; by_cases hlm : l.length = m.length
 . simp -implicitDefEqProofs [B0, hlm]; refine F3 m.length (fun k τ => τ 0 = .d (B0 l) /\ τ 1 = .d (B0 m) /\ τ 5 = .d (.int .i64 k) /\ l.take k = m.take k) (by simp [B0]) ?_; rintro k τ hk ⟨h0, h1, h5, ht⟩; by_cases hlt : k < m.length
   . have hlt' : k < l.length := (by omega); by_cases he : l[k] = m[k]
     . simp -implicitDefEqProofs [h0, h1, h5, B0, hlm, hlt, hlt', he]; refine ⟨by omega, B8 hlt ⟨by simp [h0, B0], by simp [h1, B0], by simp, ?_⟩⟩; rw [F6 hlt, F6 hlt', ht, he]
     . simp -implicitDefEqProofs [h0, h1, h5, B0, hlm, hlt, hlt', he]; rintro rfl; exact he rfl
   . simp -implicitDefEqProofs [h0, h1, h5, B0, hlm, hlt]; rw [ttl (by omega), ttl (by omega)] at ht
     first | exact ⟨by omega, ht⟩ | exact ht
 . have hlm' : ¬ (l.length : Int) = m.length := (by omega); simp -implicitDefEqProofs [B0, hlm']; rintro rfl; exact hlm rfl
def P8 (s : Str) (r : Bool × List Str) (x : Str) : Bool × List Str :=
 (r.1 || !Op.bytesLess x s, r.2 ++ (if r.1 = false /\ Op.bytesLess x s = false then [s] else []) ++ (if x = s then [] else [x]))
def a2C (s : Str) (l : List Str) : Bool × List Str := l.foldl (P8 s) (false, [])
def ins (l : List Str) (s : Str) : List Str := (a2C s l).2 ++ (if (a2C s l).1 then [] else [s])
theorem c0r {s : Str} {l : List Str} {k : Nat} (h : k < l.length) : a2C s (l.take (k + 1)) = P8 s (a2C s (l.take k)) l[k] := by
 rw [F6 h]; simp only [a2C, foldl_append, foldl_cons, foldl_nil]
theorem b3R (s : Str) : ∀ (l : List Str) (r : Bool × List Str), (l.foldl (P8 s) r).2.length <= r.2.length + 2 * l.length
 | [], r => by simp
 | x :: l, r => by
   have := b3R s l (P8 s r x); simp only [foldl_cons, length_cons]; have h2 : (P8 s r x).2.length <= r.2.length + 2 := by
     simp only [P8, length_append]; split <;> split <;> simp <;> omega
   all_goals omega
theorem c1d (s : Str) (l : List Str) : (a2C s l).2.length <= 2 * l.length := by simpa [a2C] using b3R s l (false, [])
theorem c0z (l : List Str) (s : Str) (hl : l.length < 1000000) : Ctr prog 112 [.d (B0 l), .d (.str s)] (.own true 9 ((ins l s).map .str)) := by
 refine fv (fun i => decide (i < 1000000)) func112 (by kernel_rfl) rfl rfl rfl rfl rfl ?_; simp -implicitDefEqProofs; refine F3 l.length (fun k τ => τ 0 = .d (B0 l) /\ τ 1 = .d (.str s) /\ τ 6 = .d (.bool (a2C s (l.take k)).1) /\ τ 5 = .own true 9 ((a2C s (l.take k)).2.map .str) /\ τ 7 = .d (.int .i64 k)) (by simp [a2C]) ?_; rintro k τ hk ⟨h0, h1, h6, h5, h7⟩; have hlen := c1d s (l.take k); rw [length_take, Nat.min_eq_left hk] at hlen; have ht := fun h => c0r (s := s) (l := l) (k := k) h
 generalize hr : a2C s (l.take k) = r at *; obtain ⟨d, out⟩ := r; simp only at hlen h6 h5; by_cases hlt : k < l.length
 . have ht := ht hlt; cases d with
   | true =>
     by_cases he : l[k] = s
     . simp -implicitDefEqProofs [h0, h1, h6, h5, h7, B0, hlt, he]; refine ⟨by omega, B8 hlt ⟨by simp [h0, B0], by simp [h1], ?_, ?_, by simp⟩⟩
       . rw [ht]; simp [h6, P8]
       . rw [ht]; simp [h5, P8, he]
     . simp -implicitDefEqProofs [h0, h1, h6, h5, h7, B0, hlt, he]; refine ⟨by omega, by omega, by omega, B8 hlt ⟨by simp [h0, B0], by simp [h1], ?_, ?_, by simp⟩⟩
       . rw [ht]; simp [h6, P8]
       . rw [ht]; simp [h5, P8, he]
   | false =>
     by_cases hb : Op.bytesLess l[k] s = true
     . by_cases he : l[k] = s
       . have hb' : Op.bytesLess s s = true := by rw [he] at hb; exact hb
         simp -implicitDefEqProofs [h0, h1, h6, h5, h7, B0, hlt, he, hb']; refine ⟨by omega, B8 hlt ⟨by simp [h0, B0], by simp [h1], ?_, ?_, by simp⟩⟩
         . rw [ht]; simp [h6, P8, he, hb']
         . rw [ht]; simp [h5, P8, he, hb']
       . simp -implicitDefEqProofs [h0, h1, h6, h5, h7, B0, hlt, he, hb]; refine ⟨by omega, by omega, by omega, B8 hlt ⟨by simp [h0, B0], by simp [h1], ?_, ?_, by simp⟩⟩
         . rw [ht]; simp [h6, P8, he, hb]
         . rw [ht]; simp [h5, P8, he, hb]
     . by_cases he : l[k] = s
       . have hb' : Op.bytesLess s s = false := by rw [he] at hb; simpa using hb
         simp -implicitDefEqProofs [h0, h1, h6, h5, h7, B0, hlt, he, hb']; refine ⟨by omega, by omega, by omega, B8 hlt ⟨by simp [h0, B0], by simp [h1], ?_, ?_, by simp⟩⟩
         . rw [ht]; simp [h6, P8, he, hb']
         . rw [ht]; simp [h5, P8, he, hb']
       . simp -implicitDefEqProofs [h0, h1, h6, h5, h7, B0, hlt, he, hb]; refine ⟨by omega, by omega, by omega, by omega, by omega, B8 hlt ⟨by simp [h0, B0], by simp [h1], ?_, ?_, by simp⟩⟩
         . rw [ht]; simp [h6, P8, he, hb]
         . rw [ht]; simp [h5, P8, he, hb]
 . rw [ttl (by omega)] at hr; cases d with
   | true =>
     simp -implicitDefEqProofs [h0, h1, h6, h5, h7, B0, hlt, ins, hr]
     all_goals omega
   | false =>
     simp -implicitDefEqProofs [h0, h1, h6, h5, h7, B0, hlt, ins, hr]
     all_goals omega
abbrev Att := Str × List Str
def att (a : Att) : D := .agg [.str a.1, B0 a.2]
def H6 (l : List Att) : D := .sl (l.map att)
def b1J (l : List Att) : Prop := l.length < 1000000 /\ ∀ a ∈ l, List.length a.1 < 1000000 /\ a.2.length < 1000000
theorem c3n (l m : List Att) (hl : b1J l) (hm : b1J m) : Ctr prog 60 [.d (H6 l), .d (H6 m)] (.d (.bool (decide (l = m)))) := by
 refine fv (fun _ => false) func60 (by kernel_rfl) rfl rfl rfl rfl rfl ?_; have hl1 := hl.1; have hm1 := hm.1; by_cases hlm : l.length = m.length
 . simp -implicitDefEqProofs [H6, hlm]; refine F3 m.length (fun k τ => τ 0 = .d (H6 l) /\ τ 1 = .d (H6 m) /\ τ 5 = .d (.int .i64 k) /\ l.take k = m.take k) (by simp [H6]) ?_; rintro k τ hk ⟨h0, h1, h5, ht⟩; by_cases hlt : k < m.length
   . have hlt' : k < l.length := (by omega); by_cases he : l[k].1 = m[k].1
     . simp -implicitDefEqProofs [h0, h1, h5, H6, att, B0, hlm, hlt, hlt', he]; refine B6 (c4E _ _ (hl.2 _ (gmm hlt')).2 (hm.2 _ (gmm hlt)).2) ?_; by_cases he2 : l[k].2 = m[k].2
       . simp -implicitDefEqProofs [h0, h1, h5, H6, att, B0, hlm, hlt, hlt', he, he2]; refine ⟨by omega, B8 hlt ⟨by simp [h0, H6, att, B0], by simp [h1, H6, att, B0], by simp, ?_⟩⟩; rw [F6 hlt, F6 hlt', ht, Prod.ext he he2]
       . simp -implicitDefEqProofs [h0, h1, h5, H6, att, B0, hlm, hlt, hlt', he, he2]; rintro rfl; exact he2 rfl
     . simp -implicitDefEqProofs [h0, h1, h5, H6, att, B0, hlm, hlt, hlt', he]; rintro rfl; exact he rfl
   . simp -implicitDefEqProofs [h0, h1, h5, H6, hlm, hlt]; rw [ttl (by omega), ttl (by omega)] at ht
     first | exact ⟨by omega, ht⟩ | exact ht
 . have hlm' : ¬ (l.length : Int) = m.length := (by omega); simp -implicitDefEqProofs [H6, hlm']; rintro rfl; exact hlm rfl
theorem b2L (s : Str) : ∀ (l : List Str) (r : Bool × List Str) (c : Nat), r.2.length <= c + r.1.toNat -> (l.foldl (P8 s) r).2.length <= c + l.length + (l.foldl (P8 s) r).1.toNat
 | [], _, _, h => h
 | x :: l, (d, out), c, h => by
   have h2 : (P8 s (d, out) x).2.length <= (c + 1) + (P8 s (d, out) x).1.toNat := by
     simp only at h; cases d <;> by_cases hb : Op.bytesLess x s = true <;> by_cases he : x = s <;> simp [P8, hb, he] at h ⊢ <;> first
       | omega
       | (split <;> simp <;> omega)
   have := b2L s l (P8 s (d, out) x) (c + 1) h2; simp only [foldl_cons, length_cons]; omega
theorem b7e (l : List Str) (s : Str) : (ins l s).length <= l.length + 1 := by
 have : (a2C s l).2.length <= 0 + l.length + (a2C s l).1.toNat := b2L s l (false, []) 0 (by simp); simp only [ins, length_append]; cases h : (a2C s l).1 <;> simp [h] at this ⊢ <;> omega
def Y0 (ns : List Str) (a : Att) : List Str := if a.2 = [] then ns else ins ns (D2 a.1)
def W7 (l : List Att) : List Str := l.foldl Y0 []
def a0O (n : Str) (vs : List Str) (a : Att) : List Str := if D2 a.1 = n then a.2.foldl ins vs else vs
def a0u (l : List Att) (n : Str) : List Str := l.foldl (a0O n) []
def G5 (l : List Att) : List Att := (W7 l).map fun n => (n, a0u l n)
theorem a9p {l : List Att} {k : Nat} (h : k < l.length) : W7 (l.take (k + 1)) = Y0 (W7 (l.take k)) l[k] := by
 rw [F6 h]; simp only [W7, foldl_append, foldl_cons, foldl_nil]
theorem b8i {l : List Att} {n : Str} {k : Nat} (h : k < l.length) : a0u (l.take (k + 1)) n = a0O n (a0u (l.take k) n) l[k] := by
 rw [F6 h]; simp only [a0u, foldl_append, foldl_cons, foldl_nil]
theorem a4U : ∀ (l : List Att) (ns : List Str), (l.foldl Y0 ns).length <= ns.length + l.length
 | [], ns => by simp
 | a :: l, ns => by
   have := a4U l (Y0 ns a); have h2 : (Y0 ns a).length <= ns.length + 1 := by
     unfold Y0; split
     . omega
     . exact b7e _ _
   simp only [foldl_cons, length_cons]; omega
theorem a6V : ∀ (l ns : List Str), (l.foldl ins ns).length <= ns.length + l.length
 | [], ns => by simp
 | a :: l, ns => by
   have := a6V l (ins ns a); have := b7e ns a; simp only [foldl_cons, length_cons]; omega
def H8 (l : List Att) : Nat := (l.map (·.2.length)).sum
theorem b4S (n : Str) : ∀ (l : List Att) (vs : List Str), (l.foldl (a0O n) vs).length <= vs.length + H8 l
 | [], vs => by simp [H8]
 | a :: l, vs => by
   have := b4S n l (a0O n vs a); have h2 : (a0O n vs a).length <= vs.length + a.2.length := by
     unfold a0O; split
     . exact a6V _ _
     . omega
   simp only [foldl_cons, H8, map_cons, sum_cons] at this ⊢
   all_goals omega
def a4m (l : List Att) : Prop := b1J l /\ H8 l < 500000
theorem b1e (l : List Att) (k : Nat) (h : k < l.length) : H8 (l.take k) + l[k].2.length <= H8 l := by
 have e : H8 l = H8 (l.take k) + (l[k].2.length + H8 (l.drop (k + 1))) := by
   conv => lhs; rw [<- take_append_drop k l, drop_eq_getElem_cons h]
   simp only [H8, map_append, map_cons, sum_append, sum_cons]
 all_goals omega
def a3c (l : List Att) (ns : List Str) (i : Nat) : List D := ((ns.take i).map fun n => (n, a0u l n)).map att
theorem b9W (l : List Att) (ns : List Str) : a3c l ns 0 = [] := rfl
theorem b9y (l : List Att) {ns : List Str} {i : Nat} (h : i < ns.length) : a3c l ns (i + 1) = a3c l ns i ++ [.agg [.str ns[i], B0 (a0u l ns[i])]] := by
 rw [a3c, F6 h]; simp only [map_append, map_cons, map_nil]; rfl
theorem c2b (l : List Att) {ns : List Str} {i : Nat} (h : i <= ns.length) : (a3c l ns i).length = i := by simp [a3c, Nat.min_eq_left h]
theorem c1N (l : List Att) (i : Nat) (h : (W7 l).length <= i) : a3c l (W7 l) i = (G5 l).map att := by rw [a3c, ttl h]; rfl
theorem b7B (l : List Att) (ns : List Str) (i : Nat) : ∀ u ∈ a3c l ns i, C0 u = 2 := by
 intro u hu; simp only [a3c, map_map, mem_map] at hu; obtain ⟨n, _, rfl⟩ := hu; rfl
theorem a6T (l : List Att) (hl : a4m l) : Ctr prog 61 [.d (H6 l)] (.own true 72 ((G5 l).map att)) := by
 refine fv (fun i => i == 5) func61 (by kernel_rfl) rfl rfl rfl rfl rfl ?_; obtain ⟨⟨hl1, hl2⟩, hl3⟩ := hl; simp -implicitDefEqProofs; refine F3 l.length (fun k τ => τ 0 = .d (H6 l) /\ τ 4 = .d (.int .i64 k) /\ τ 3 = .own false 9 ((W7 (l.take k)).map .str)) (by simp [W7]) ?_; rintro k τ hk ⟨h0, h4, h3⟩; by_cases hlt : k < l.length
 . have hn := a4U (l.take k) []; rw [length_take] at hn; by_cases he : l[k].2 = []
   . simp -implicitDefEqProofs [h0, h4, h3, hlt, H6, att, B0, he]; refine ⟨by omega, B8 hlt ⟨by simp [h0, H6, att, B0], by simp, ?_⟩⟩; rw [a9p hlt]; simp [h3, Y0, he]
   . have he' : 0 < l[k].2.length := length_pos_iff.2 he; simp -implicitDefEqProofs [h0, h4, h3, hlt, H6, att, B0, he']; refine A0 (a0l _ (hl2 _ (gmm hlt)).1) ?_; simp -implicitDefEqProofs [h0, h4, h3, hlt, H6, att, B0, he']; have hf := c0z (W7 (l.take k)) (D2 l[k].1) (by simp only [length_nil] at hn; unfold W7; omega); simp only [B0] at hf; refine A0 hf ?_; simp -implicitDefEqProofs [h0, h4, h3, hlt, H6, att, B0, he']; refine ⟨by omega, B8 hlt ⟨by simp [h0, H6, att, B0], by simp, ?_⟩⟩; rw [a9p hlt]; simp [Y0, he]
 . simp -implicitDefEqProofs [h0, h4, h3, hlt, H6]; rw [ttl (by omega)] at h3; have hn := a4U l []; generalize hN : W7 l = ns at *; rw [show foldl Y0 [] l = W7 l from rfl, hN] at hn; simp only [length_nil, Nat.zero_add] at hn; refine F3 ns.length (fun i τ => τ 0 = .d (H6 l) /\ τ 3 = .own false 9 (ns.map .str) /\ τ 6 = .d (.int .i64 i) /\ τ 5 = .own true 72 (a3c l ns i)) (by simp [h0, h3, hN, H6, b9W]) ?_; clear h0 h3 h4 τ; rintro i τ hi ⟨h0, h3, h6, h5⟩; by_cases hlt2 : i < ns.length
   . simp -implicitDefEqProofs [h0, h3, h5, h6, hlt2, H6, att, B0]; refine F3 l.length (fun k τ => τ 0 = .d (H6 l) /\ τ 3 = .own false 9 (ns.map .str) /\ τ 6 = .d (.int .i64 i) /\ τ 5 = .own true 72 (a3c l ns i) /\ τ 8 = .d (.int .i64 k) /\ τ 7 = .box (.agg [.str ns[i], B0 (a0u (l.take k) ns[i])])) (by simp [h0, h3, h5, h6, hN, H6, att, B0, a0u]) ?_; clear h0 h3 h6 h5 τ hk hlt k; rintro k τ hk ⟨h0, h3, h6, h5, h8, h7⟩; by_cases hlt : k < l.length
     . have hv := b4S ns[i] (l.take k) []; have ht := b1e l k hlt; rw [show (l.take k).foldl (a0O ns[i]) [] = a0u (l.take k) ns[i] from rfl] at hv; have hst := b8i (n := ns[i]) hlt; generalize a0u (l.take k) ns[i] = vs at *; simp -implicitDefEqProofs [h0, h3, h5, h6, h7, h8, hlt, hlt2, H6, att, B0]; refine F3 l[k].2.length (fun j τ => τ 0 = .d (H6 l) /\ τ 3 = .own false 9 (ns.map .str) /\ τ 6 = .d (.int .i64 i) /\ τ 5 = .own true 72 (a3c l ns i) /\ τ 8 = .d (.int .i64 k) /\ τ 9 = .d (.int .i64 j) /\ τ 7 = .box (.agg [.str ns[i], B0 (if D2 l[k].1 = ns[i] then (l[k].2.take j).foldl ins vs else vs)])) (by simp [h0, h3, h5, h6, h7, h8, H6, att, B0]) ?_; clear h0 h3 h6 h5 h8 h7 τ; rintro j τ hj ⟨h0, h3, h6, h5, h8, h9, h7⟩; have hal := (hl2 _ (gmm hlt)); by_cases hn : D2 l[k].1 = ns[i]
       . rw [if_pos hn] at h7; by_cases hlt3 : j < l[k].2.length
         . simp -implicitDefEqProofs [h0, h3, h5, h6, h7, h8, h9, hlt, hlt2, hlt3, H6, att, B0]; refine B6 (a0l _ hal.1) ?_; simp -implicitDefEqProofs [h0, h3, h5, h6, h7, h8, h9, hlt, hlt2, hlt3, H6, att, B0, hn]; have hal2 := a6V (l[k].2.take j) vs; have hf := c0z ((l[k].2.take j).foldl ins vs) l[k].2[j] (by simp only [length_take, length_nil] at hal2 hv; omega); simp only [B0] at hf; refine B6 hf ?_; simp -implicitDefEqProofs [h0, h3, h5, h6, h7, h8, h9, hlt, hlt2, hlt3, H6, att, B0, hn]; refine ⟨by omega, B8 hlt3 ⟨by simp [h0, H6, att, B0], by simp [h3], by simp [h6], by simp [h5], by simp [h8], by simp, ?_⟩⟩; rw [F6 hlt3, foldl_append]; simp -implicitDefEqProofs [B0]
         . simp -implicitDefEqProofs [h0, h3, h5, h6, h7, h8, h9, hlt, hlt2, hlt3, H6, att, B0]; refine B6 (a0l _ hal.1) ?_; simp -implicitDefEqProofs [h0, h3, h5, h6, h7, h8, h9, hlt, hlt2, hlt3, H6, att, B0, hn]; refine ⟨by omega, B8 hlt ⟨by simp [h0, H6, att, B0], by simp [h3], by simp [h6], by simp [h5], by simp, ?_⟩⟩; rw [hst, a0O, if_pos hn]; rw [ttl (by omega)] at h7; simp -implicitDefEqProofs [h7, B0]
       . rw [if_neg hn] at h7; simp -implicitDefEqProofs [h0, h3, h5, h6, h7, h8, h9, hlt, hlt2, H6, att, B0]; refine B6 (a0l _ hal.1) ?_; simp (config := { maxSteps := 1000000 }) [h0, h3, h5, h6, h7, h8, h9, hlt, hlt2, H6, att, B0, hn]; refine ⟨by omega, B8 hlt ⟨by simp [h0, H6, att, B0], by simp [h3], by simp [h6], by simp [h5], by simp, ?_⟩⟩; rw [hst, a0O, if_neg hn]; simp -implicitDefEqProofs [h7, B0]
     . have hw := b7B l ns i; rw [ttl (by omega)] at h7; simp -implicitDefEqProofs [h0, h3, h5, h6, h7, h8, hlt, hlt2, H6, att, B0]; rw [c2b l hi]; refine ⟨by omega, by omega, by omega, B8 hlt2 ⟨by simp [h0, H6, att, B0], by simp [h3], by simp, ?_⟩⟩; simp -implicitDefEqProofs [b9y l hlt2, B0]
   . simp -implicitDefEqProofs [h0, h3, h5, h6, hlt2, H6, att, B0]; rw [<- hN]; exact c1N l i (by rw [hN]; omega)
theorem b4N (c : UInt8) : Ctr prog 109 [.d (u8 c)] (.d (.bool (decide (65 <= (c.toNat : Int)) && decide ((c.toNat : Int) <= 90)))) := by
 refine fv (fun _ => false) func109 (by kernel_rfl) rfl rfl rfl rfl rfl ?_; by_cases h1 : 65 <= (c.toNat : Int) <;> simp [u8, h1]
theorem b0Y (c : UInt8) : Ctr prog 107 [.d (u8 c)] (.d (.bool (a0k c))) := by
 refine fv (fun _ => false) func107 (by kernel_rfl) rfl rfl rfl rfl rfl ?_; simp -implicitDefEqProofs; refine A0 (b4N c) ?_; by_cases h1 : 97 <= (c.toNat : Int) <;> by_cases h2 : (c.toNat : Int) <= 122 <;> by_cases h3 : 65 <= (c.toNat : Int) <;> by_cases h4 : (c.toNat : Int) <= 90 <;> simp -implicitDefEqProofs [u8, a0k, h1, h2, h3, h4]
theorem c0y (c : UInt8) : Ctr prog 108 [.d (u8 c)] (.d (.bool (a2N c))) := by
 refine fv (fun _ => false) func108 (by kernel_rfl) rfl rfl rfl rfl rfl ?_; by_cases h1 : 48 <= (c.toNat : Int) <;> simp [u8, a2N, h1]
theorem b8u (c : UInt8) : Ctr prog 106 [.d (u8 c)] (.d (.bool (X2 c))) := by
 refine fv (fun _ => false) func106 (by kernel_rfl) rfl rfl rfl rfl rfl ?_; simp -implicitDefEqProofs [u8]; refine A0 (b0Y c) ?_; by_cases h1 : a0k c = true
 . simp -implicitDefEqProofs [h1, X2]
 . simp -implicitDefEqProofs [h1]; refine A0 (c0y c) ?_; by_cases h2 : a2N c = true <;> by_cases h3 : (c.toNat : Int) = 45 <;> simp [h1, h2, h3, X2]
def c3U (n : Str) : List Att -> List Str
 | [] => []
 | a :: l => if a.1 = n then a.2 else c3U n l
def c6k (l : List Att) (name : Str) : List Str := c3U (D2 name) (G5 l)
theorem b8s (l : List Att) : (G5 l).length <= l.length := by
 have := a4U l []; simp only [length_nil, Nat.zero_add] at this; simpa [G5, W7] using this
theorem c4M (s : Str) (hs : List.length s < 1000000) : Ctr prog 105 [.d (.str s), .d (.clo 106 [])] (.d (.bool (s.all X2 && decide (s ≠ []) && decide (s.length <= 64)))) := by
 refine fv (fun _ => false) func105 (by kernel_rfl) rfl rfl rfl rfl rfl ?_; simp -implicitDefEqProofs; refine F3 (List.length s) (fun k τ => τ 0 = .d (.str s) /\ τ 1 = .d (.clo 106 []) /\ τ 7 = .d (.int .i64 (List.length s)) /\ τ 8 = .d (.int .i64 k) /\ ∀ x ∈ s.take k, X2 x = true) (by simp) ?_; rintro k τ hk ⟨h0, h1, h7, h8, ha⟩; by_cases hlt : k < List.length s
 . simp -implicitDefEqProofs [h0, h1, h7, h8, hlt]; refine A0 (b8u s[k]) ?_; by_cases e1 : X2 s[k] = true
   . simp -implicitDefEqProofs [h0, h1, h7, h8, hlt, e1]; exact ⟨by omega, B8 hlt ⟨by simp [h0], by simp [h1], by simp [h7], by simp, a3a hlt ha e1⟩⟩
   . simp -implicitDefEqProofs [h0, h1, h7, h8, hlt, e1]; intro h; exact absurd (h _ (gmm hlt)) e1
 . rw [ttl (by omega)] at ha; have hall : List.all s X2 = true := (by simpa using ha); by_cases e2 : s = []
   . simp -implicitDefEqProofs [h0, h1, h7, h8, hlt, e2]
   . simp -implicitDefEqProofs [h0, h1, h7, h8, hlt, e2, hall]
     all_goals omega
theorem a9I (s : Str) (hs : List.length s < 1000000) : Ctr prog 55 [.d (.str s)] (.d (.bool (K5 s))) := by
 refine fv (fun _ => false) func55 (by kernel_rfl) rfl rfl rfl rfl rfl ?_; simp -implicitDefEqProofs; refine A0 (c4M s hs) ?_; by_cases e : (s.all X2 && decide (s ≠ []) && decide (s.length <= 64)) = true
 . have e0 := e; simp only [Bool.and_eq_true, decide_eq_true_eq] at e; obtain ⟨⟨e1, e2⟩, e3⟩ := e; obtain ⟨c, t, rfl⟩ := exists_cons_of_ne_nil e2; simp only [e0]; simp -implicitDefEqProofs; refine A0 (b0Y c) ?_; have e4 : (List.length (c :: t)) <= 64 := e3; simp -implicitDefEqProofs [K5, e1, e4]; intro _; simpa using e4
 . rw [Bool.not_eq_true] at e; simp only [e]; simp -implicitDefEqProofs [K5]; intro h1 h2 _; have hne : s ≠ [] := by
     rintro rfl; simp at h1
   simpa [hne, h2] using e
def fil (n : Str) (s : List Att) : List Att := s.filter fun a => !decide (a.1 = n)
def b5p (l : List Att) (name : Str) : List Att := fil (D2 name) (G5 l)
def a6p (l : List Att) (name : Str) (v : List Str) : List Att × Int :=
 if 32 < (G5 (b5p l name ++ [(name, v)])).length \/ 16 < v.length then ([], 3) else (G5 (b5p l name ++ [(name, v)]), 0)
def a2y {α : Type} (p : α -> Bool) : Nat -> List α -> Int
 | _, [] => -1
 | k, x :: l => if p x = true then k else a2y p (k + 1) l
theorem b9k {α : Type} {p : α -> Bool} {l : List α} {k : Nat} (h : k < l.length) : a2y p k (l.drop k) = if p l[k] = true then (k : Int) else a2y p (k + 1) (l.drop (k + 1)) := by
 rw [drop_eq_getElem_cons h, a2y]
end Go.Proofs.Tz
namespace Go.Proofs.Tz
open Go.Vw Go.RowKit Go.Proofs
end Go.Proofs.Tz
namespace Go.Proofs.Tz
open Go.Vw
theorem c2a {c : UInt8} (h : ¬ (65 <= (c.toNat : Int) /\ (c.toNat : Int) <= 90)) : a0H c = c := if_neg h
def a1W (s : Str) (k : Nat) : List D := ((D2 (s.take k)) ++ s.drop k).map u8
theorem b9G (s : Str) (k : Nat) (h : k <= List.length s) : (a1W s k).length = List.length s := by simp [a1W, D2]; omega
theorem b9B (s : Str) (k : Nat) (h : k < List.length s) : (a1W s k)[k]? = some (u8 s[k]) := by
 have hl : (D2 (s.take k)).length = k := by simp [D2]; omega
 simp only [a1W, getElem?_map]; rw [getElem?_append_right (by omega), hl, Nat.sub_self]; simp [h]
theorem b9w (s : Str) (k : Nat) (h : k < List.length s) : (a1W s k).set k (u8 (a0H s[k])) = a1W s (k + 1) := by
 have hl : (D2 (s.take k)).length = k := by simp [D2]; omega
 simp only [a1W, <- map_set]; rw [set_append_right _ _ (by omega), hl, Nat.sub_self, drop_eq_getElem_cons h, set_cons_zero, F6 h]; simp only [D2, map_append, map_cons, map_nil, append_assoc, singleton_append]
theorem a2F (s : Str) (hs : List.length s < 1000000) : Ctr prog 56 [.d (.str s)] (.d (.str (D2 s))) := by
 refine fv (fun i => decide (i < 1000000)) func56 (by kernel_rfl) rfl rfl rfl rfl rfl ?_; simp -implicitDefEqProofs; refine ⟨by omega, ?_⟩; refine F3 (List.length s) (fun k τ => τ 9 = .d (.int .i64 k) /\ τ 8 = .d (.int .i64 (List.length s)) /\ τ 3 = .own true 100005 (a1W s k)) (by simp [a1W, D2, B5, u8]) ?_; rintro k τ hk ⟨h9, h8, h3⟩; have hlen := b9G s k hk; by_cases hlt : k < List.length s
 . have hg := b9B s k hlt; have hset := b9w s k hlt; generalize a1W s k = M at *; have hlt2 : k < M.length := (by omega); have hg2 : M[k] = u8 s[k] := (List.getElem?_eq_some_iff.1 hg).2; simp -implicitDefEqProofs [h9, h8, h3, hlt, hlt2, hg2, u8]; refine A0 (b4N _) ?_; by_cases h1 : 65 <= (s[k].toNat : Int) /\ (s[k].toNat : Int) <= 90
   . simp -implicitDefEqProofs [h9, h8, h3, hlt, hlt2, hg2, u8, h1.1, h1.2]; have e : u8 (a0H s[k]) = .int .u8 ((s[k].toNat : Int) + 32) := by
       simp only [u8, a3O _ h1.1 h1.2]; congr 1; omega
     rw [e] at hset; exact ⟨by omega, by omega, B8 hlt ⟨by simp, by simp [h8], by simp [hset]⟩⟩
   . have hb : (decide (65 <= (s[k].toNat : Int)) && decide ((s[k].toNat : Int) <= 90)) = false := (by simpa using h1); simp -implicitDefEqProofs [h9, h8, h3, hlt, hlt2, hg2, u8, hb]; rw [c2a h1, <- hg2, set_getElem_self] at hset; exact ⟨by omega, B8 hlt ⟨by simp, by simp [h8], by simp [h3, hset]⟩⟩
 . simp -implicitDefEqProofs [h9, h8, h3, hlt]; have e : a1W s k = B5 (D2 s) := by
     have : k = List.length s := (by omega); subst this; simp [a1W, B5, u8]
   simp -implicitDefEqProofs [e, h3]
theorem c5C {x c : UInt8} (h : ¬ x = c) : ¬ ((x.toNat : Int) = c.toNat) := fun e => h (UInt8.toNat_inj.1 (by omega))
def S6 (c : UInt8) (s : Str) : Str := s.dropWhile fun x => decide (x = c)
def I8 (c : UInt8) (s : Str) : Str := (s.reverse.dropWhile fun x => decide (x = c)).reverse
theorem c2l (s : Str) (c : UInt8) : Ctr prog 191 [.d (.str s), .d (u8 c)] (.d (.str (S6 c s))) := by
 refine fv (fun _ => false) func191 (by kernel_rfl) rfl rfl rfl rfl rfl ?_; simp -implicitDefEqProofs [u8]; refine a2s (fun n τ => ∃ t : Str, n = t.length /\ τ 0 = .d (.str t) /\ τ 1 = .d (.int .u8 c.toNat) /\ S6 c t = S6 c s) s.length ⟨s, rfl, by simp, by simp, rfl⟩ ?_; rintro n τ ⟨t, rfl, h0, h1, ht⟩; cases t with
 | nil =>
   simp -implicitDefEqProofs [h0, h1]; rw [<- ht]; rfl
 | cons x t =>
   by_cases hx : x = c
   . subst hx; simp -implicitDefEqProofs [h0, h1]; exact ⟨_, by omega, t, rfl, rfl, by rw [<- ht, S6, S6, dropWhile_cons, if_pos (by simp)]⟩
   . have := c5C hx; simp -implicitDefEqProofs [h0, h1, this]; rw [<- ht, S6, dropWhile_cons, if_neg (by simp [hx])]
theorem a0Y {c : UInt8} {t : Str} (h : 0 < List.length t) : I8 c t = if t[List.length t - 1] = c then I8 c (t.take (List.length t - 1)) else t := by
 have e : t = t.take (List.length t - 1) ++ [t[List.length t - 1]] := by
   have := F6 (l := t) (k := List.length t - 1) (by omega); rw [show List.length t - 1 + 1 = List.length t by omega, take_length] at this; exact this
 conv => lhs; rw [e]
 rw [I8, reverse_append, reverse_singleton, singleton_append, dropWhile_cons]; by_cases hx : t[List.length t - 1] = c
 . rw [if_pos (by simpa using hx), if_pos hx, I8]
 . rw [if_neg (by simpa using hx), if_neg hx, reverse_cons, reverse_reverse]; exact e.symm
theorem c3p (s : Str) (c : UInt8) (hs : List.length s < 1000000) : Ctr prog 192 [.d (.str s), .d (u8 c)] (.d (.str (I8 c s))) := by
 refine fv (fun _ => false) func192 (by kernel_rfl) rfl rfl rfl rfl rfl ?_; simp -implicitDefEqProofs [u8]; refine a2s (fun n τ => ∃ t : Str, n = t.length /\ τ 0 = .d (.str t) /\ τ 1 = .d (.int .u8 c.toNat) /\ List.length t < 1000000 /\ I8 c t = I8 c s) s.length ⟨s, rfl, by simp, by simp, hs, rfl⟩ ?_; rintro n τ ⟨t, rfl, h0, h1, hl, ht⟩; by_cases hpos : 0 < List.length t
 . have hi : 0 <= (List.length t : Int) - 1 := (by omega); have hi2 : ((List.length t : Int) - 1).toNat = List.length t - 1 := (by omega); have hi3 : List.length t - 1 < List.length t := (by omega); have hi4 : -9223372036854775808 <= (List.length t : Int) - 1 := (by omega); have hi5 : (List.length t : Int) - 1 <= 9223372036854775807 := (by omega); have hi6 : 1 <= (List.length t : Int) := (by omega); have hz : ¬ t = [] := fun e => by subst e; simp at hpos
   rw [a0Y hpos] at ht; by_cases hx : t[List.length t - 1] = c
   . rw [if_pos hx] at ht; simp -implicitDefEqProofs [h0, h1, hpos, hi, hi2, hi3, hi4, hi5, hi6, hx, hz]; exact ⟨List.length t - 1, by omega, t.take (List.length t - 1), by rw [length_take]; omega, rfl, by rw [length_take]; omega, ht⟩
   . have := c5C hx; rw [if_neg hx] at ht; simp -implicitDefEqProofs [h0, h1, hpos, hi, hi2, hi3, hi4, hi5, hi6, this, hz]; exact ht
 . obtain rfl : t = [] := eq_nil_of_length_eq_zero (by omega); simp -implicitDefEqProofs [h0, h1]; rw [<- ht]; rfl
def F1 (s : Str) : Str := S6 32 (I8 32 s)
theorem b8v (s : Str) (hs : List.length s < 1000000) : Ctr prog 149 [.d (.str s), .d (.str [32])] (.d (.str (F1 s))) := by
 refine fv (fun _ => false) func149 (by kernel_rfl) rfl rfl rfl rfl rfl ?_; by_cases hz : s = []
 . subst hz; simp -implicitDefEqProofs; try rfl
 simp -implicitDefEqProofs [hz]; have h1 : Ctr prog 192 [.d (.str s), .d (.int .u8 32)] (.d (.str (I8 32 s))) := c3p s 32 hs; have h2 : Ctr prog 191 [.d (.str (I8 32 s)), .d (.int .u8 32)] (.d (.str (F1 s))) := c2l (I8 32 s) 32; refine B6 h1 ?_; simp -implicitDefEqProofs [hz]; refine B6 h2 ?_; simp -implicitDefEqProofs [hz]
theorem a8L (s : Str) (hs : List.length s < 1000000) : Ctr prog 110 [.d (.str s)] (.d (.str (F1 s))) := by
 refine fv (fun _ => false) func110 (by kernel_rfl) rfl rfl rfl rfl rfl ?_; simp -implicitDefEqProofs; refine A0 (b8v s hs) ?_; simp -implicitDefEqProofs
def a2w (s : Str) : Bool := s.all U8 && decide (s ≠ []) && decide (List.length s <= 256) && decide (F1 s = s)
theorem c6A {s : Str} {k : Nat} (h : k < List.length s) (hc : s[k].toNat < 128) : Go.Utf8.decode ⟨s.toArray⟩ k = (s[k].toNat, 1) := by
 have hb : k < (⟨s.toArray⟩ : ByteArray).size := (by simpa [ByteArray.size] using h); have e : (⟨s.toArray⟩ : ByteArray)[k]'hb = s[k] := rfl; have := decode_ascii ⟨s.toArray⟩ k hb (by rw [e]; exact hc); rw [e] at this; exact this
theorem c6f {s : Str} {k : Nat} (h : k < List.length s) (hc : 128 <= s[k].toNat) : 128 <= (Go.Utf8.decode ⟨s.toArray⟩ k).1 := by
 have hb : k < (⟨s.toArray⟩ : ByteArray).size := (by simpa [ByteArray.size] using h); have e : (⟨s.toArray⟩ : ByteArray)[k]'hb = s[k] := rfl; exact (decode_high ⟨s.toArray⟩ k hb (by rw [e]; exact hc)).1
theorem b1i (c : UInt8) (s : Str) : List.length (S6 c s) <= List.length s := (dropWhile_sublist _).length_le
theorem b0x (c : UInt8) (s : Str) : List.length (I8 c s) <= List.length s := by
 have := (dropWhile_sublist (fun x : UInt8 => decide (x = c)) (l := s.reverse)).length_le; simpa [I8] using this
theorem c1b {s : Str} (h : 0 < List.length s) : F1 s = s ↔ s[0] ≠ 32 /\ s[List.length s - 1] ≠ 32 := by
 constructor
 . intro e; have h1 := b1i 32 (I8 32 s); have h2 := b0x 32 s; have h3 : List.length (F1 s) = List.length s := by rw [e]
   rw [F1] at h3; have hr : s[List.length s - 1] ≠ 32 := by
     intro h4; rw [a0Y h, if_pos h4] at h3 h1; have h5 := b0x 32 (s.take (List.length s - 1)); rw [length_take] at h5; omega
   refine ⟨fun h4 => ?_, hr⟩; rw [F1, a0Y h, if_neg hr] at e; cases s with
   | nil => simp at h
   | cons x t =>
     simp only [getElem_cons_zero] at h4; rw [S6, dropWhile_cons, if_pos (by simp [h4])] at e; have := b1i 32 t; rw [S6, e, length_cons] at this; omega
 . rintro ⟨h1, h2⟩; rw [F1, a0Y h, if_neg h2]; cases s with
   | nil => rfl
   | cons x t => rw [S6, dropWhile_cons, if_neg (by simpa using h1)]
theorem a8m (s : Str) : a2w s = I9 s := by
 by_cases h : 0 < List.length s
 . have hne : s ≠ [] := fun e => by subst e; simp at h
   have hh : s.head? = some s[0] := (by simp [head?_eq_getElem?, h]); have hl : s.getLast? = some s[List.length s - 1] := by rw [getLast?_eq_getElem?, getElem?_eq_getElem (by omega)]
   rw [Bool.eq_iff_iff]; simp only [a2w, I9, Bool.and_eq_true, decide_eq_true_eq, c1b h, hh, hl, bne_iff_ne, ne_eq, Option.some.injEq]; have : 1 <= List.length s := h; constructor
   . rintro ⟨⟨⟨a, b⟩, c⟩, d, e⟩; exact ⟨⟨⟨⟨this, c⟩, d⟩, e⟩, a⟩
   . rintro ⟨⟨⟨⟨_, c⟩, d⟩, e⟩, a⟩; exact ⟨⟨⟨a, hne⟩, c⟩, d, e⟩
 . obtain rfl : s = [] := eq_nil_of_length_eq_zero (by omega); rfl
theorem a7X (s : Str) (hs : List.length s < 1000000) : Ctr prog 57 [.d (.str s)] (.d (.bool (a2w s))) := by
 refine fv (fun _ => false) func57 (by kernel_rfl) rfl rfl rfl rfl rfl ?_; simp -implicitDefEqProofs; refine F3 (List.length s) (fun k τ => τ 0 = .d (.str s) /\ τ 6 = .iter s k /\ ∀ x ∈ s.take k, U8 x = true) (by simp) ?_; rintro k τ hk ⟨h0, h6, hall⟩; by_cases hlt : k < List.length s
 . by_cases ha : s[k].toNat < 128
   . have hd := c6A hlt ha; by_cases e1 : (s[k].toNat : Int) < 32
     . have e1' : ¬ 32 <= (s[k].toNat : Int) := (by omega); simp -implicitDefEqProofs [h0, h6, hlt, hd, e1]; simp [a2w, a4b hlt (show U8 s[k] = false by simp [U8, e1'])]
     . by_cases e2 : 126 < (s[k].toNat : Int)
       . have e2' : ¬ (s[k].toNat : Int) <= 126 := (by omega); simp -implicitDefEqProofs [h0, h6, hlt, hd, e1, e2]; simp [a2w, a4b hlt (show U8 s[k] = false by simp [U8, e2'])]
       . have e1' : 32 <= (s[k].toNat : Int) := (by omega); have e2' : (s[k].toNat : Int) <= 126 := (by omega); simp -implicitDefEqProofs [h0, h6, hlt, hd, e1, e2]; exact B8 hlt ⟨by simp [h0], by simp, a3a hlt hall (by simp [U8, e1', e2'])⟩
   . have hd := c6f hlt (by omega); have e1 : ¬ ((Go.Utf8.decode ⟨s.toArray⟩ k).1 : Int) < 32 := (by omega); have e2 : 126 < ((Go.Utf8.decode ⟨s.toArray⟩ k).1 : Int) := (by omega); have e2' : ¬ (s[k].toNat : Int) <= 126 := (by omega); simp -implicitDefEqProofs [h0, h6, hlt, e1, e2]; simp [a2w, a4b hlt (show U8 s[k] = false by simp [U8, e2'])]
 . rw [ttl (by omega)] at hall; have hall' : s.all U8 = true := all_eq_true.2 hall; by_cases hz : s = []
   . subst hz; simp -implicitDefEqProofs [h0, h6, a2w]
   . by_cases h2 : (List.length s : Int) <= 256
     . have h2' : List.length s <= 256 := (by omega); simp -implicitDefEqProofs [h0, h6, hlt, hz, h2]; refine A0 (a8L s hs) ?_; simp -implicitDefEqProofs [h0, h6, hlt, hz, h2, a2w, hall', h2']
     . have h2' : ¬ List.length s <= 256 := (by omega); simp -implicitDefEqProofs [h0, h6, hlt, hz, h2, a2w, h2']
end Go.Proofs.Tz
namespace Go.Proofs.Tz
open Go.Vw Go.RowKit Go.Proofs
def P5 (c : UInt8) : Bool := decide (c = 44) || decide (c = 61) || decide (c = 43) || decide (c = 92)
def D7 (c : UInt8) : Str -> Nat
 | [] => 0
 | [x] => if x = c then 0 else 1
 | x :: y :: r => if x = c then 0 else if x = 92 then 2 + D7 c r else 1 + D7 c (y :: r)
theorem a6r (c : UInt8) : ∀ (s : Str), D7 c s <= s.length
 | [] => by simp [D7]
 | [x] => by simp only [D7]; split <;> simp
 | x :: y :: r => by
   have h1 := a6r c r; have h2 := a6r c (y :: r); simp only [D7]; simp only [length_cons] at h2 ⊢; split
   . omega
   . split <;> omega
def a1w : Nat -> Str -> List Str
 | 0, s => [s]
 | n + 1, s => if D7 44 s < s.length then s.take (D7 44 s) :: a1w n (s.drop (D7 44 s + 1)) else [s]
def M4 (s : Str) : List Str := a1w s.length s
theorem b0F : ∀ (n m : Nat) (s : Str), s.length <= n -> s.length <= m -> a1w n s = a1w m s
 | 0, 0, _, _, _ => rfl
 | 0, m + 1, s, h, _ => by
   have : s = [] := length_eq_zero_iff.1 (by omega); subst this; simp [a1w]
 | n + 1, 0, s, _, h => by
   have : s = [] := length_eq_zero_iff.1 (by omega); subst this; simp [a1w]
 | n + 1, m + 1, s, h1, h2 => by
   simp only [a1w]; split
   . rw [b0F n m _ (by simp only [length_drop]; omega) (by simp only [length_drop]; omega)]
   . rfl
theorem a1E {s : Str} (h : D7 44 s < s.length) : M4 s = s.take (D7 44 s) :: M4 (s.drop (D7 44 s + 1)) := by
 obtain ⟨n, hn⟩ : ∃ n, s.length = n + 1 := ⟨s.length - 1, by omega⟩; rw [M4, hn, a1w, if_pos h, M4, b0F n _ _ (by simp only [length_drop]; omega) (Nat.le_refl _)]
theorem X6 {s : Str} (h : ¬ D7 44 s < s.length) : M4 s = [s] := by
 rw [M4]; cases s.length with
 | zero => rfl
 | succ n => rw [a1w, if_neg h]
def N5 : Str -> Option Str
 | [] => some []
 | [x] => if x = 92 then none else if P5 x = true then none else some [x]
 | x :: y :: r => if x = 92 then (if P5 y = true then (N5 r).map (y :: ·) else none) else if P5 x = true then none else (N5 (y :: r)).map (x :: ·)
def N6 : Str -> Option Str
 | [] => some []
 | [x] => if x = 92 then none else if x = 61 \/ x = 43 then none else some [x]
 | x :: y :: r => if x = 92 then (if P5 y = true then (N6 r).map (y :: ·) else none) else if x = 61 \/ x = 43 then none else (N6 (y :: r)).map (x :: ·)
def NoU (c : UInt8) : Str -> Prop
 | [] => True
 | [x] => x ≠ c
 | x :: y :: r => x ≠ c /\ if x = 92 then NoU c r else NoU c (y :: r)
theorem a8l : ∀ (s : Str), NoU 44 s -> N6 s = N5 s
 | [], _ => rfl
 | [x], h => by
   simp only [NoU] at h; simp only [N6, N5]; by_cases h1 : x = 92
   . simp [h1]
   . simp [h1, P5, h]
 | x :: y :: r, h => by
   simp only [NoU] at h; have i1 := fun e => a8l r e
   have i2 := fun e => a8l (y :: r) e
   simp only [N6, N5]; by_cases h1 : x = 92
   . rw [if_pos h1] at h; simp [h1, i1 h.2]
   . rw [if_neg h1] at h; simp [h1, P5, h.1, i2 h.2]
theorem NoU.take {c : UInt8} : ∀ {s : Str} (n : Nat), NoU c s -> NoU c (s.take n)
 | [], n, h => by simpa using h
 | [x], 0, h => by simp [NoU]
 | [x], n + 1, h => by simpa using h
 | x :: y :: r, 0, h => by simp [NoU]
 | x :: y :: r, 1, h => by simp only [NoU] at h; simp [NoU, h.1]
 | x :: y :: r, n + 2, h => by
   simp only [NoU] at h; have e : List.take (n + 2) (x :: y :: r) = x :: y :: List.take n r := rfl; rw [e]; refine ⟨h.1, ?_⟩; by_cases h1 : x = 92
   . rw [if_pos h1] at h ⊢; exact NoU.take n h.2
   . rw [if_neg h1] at h ⊢; exact NoU.take (n + 1) h.2
theorem NoU.tail {c x : UInt8} {s : Str} (h : NoU c (x :: s)) (hx : x ≠ 92) : NoU c s := by
 cases s with
 | nil => simp [NoU]
 | cons y r => simp only [NoU, if_neg hx] at h; exact h.2
theorem NoU.trimL {c : UInt8} : ∀ {s : Str}, NoU c s -> NoU c (S6 32 s)
 | [], h => h
 | x :: s, h => by
   rw [S6, dropWhile_cons]; split
   . rename_i hx
     have hx' : x = 32 := (by simpa using hx); exact NoU.trimL (h.tail (by rw [hx']; decide))
   . exact h
theorem b6m (c : UInt8) (s : Str) : ∃ n, I8 c s = s.take n := by
 obtain ⟨t, ht⟩ := dropWhile_suffix (l := s.reverse) (fun x => decide (x = c)); refine ⟨(I8 c s).length, ?_⟩; have : I8 c s ++ t.reverse = s := by
   rw [I8, <- reverse_append, ht, reverse_reverse]
 have h2 := congrArg (List.take (I8 c s).length) this; rw [take_left' rfl] at h2; exact h2
theorem NoU.trim {c : UInt8} {s : Str} (h : NoU c s) : NoU c (F1 s) := by
 rw [F1]; obtain ⟨n, hn⟩ := b6m 32 s; rw [hn]; exact (h.take n).trimL
theorem NoU.after {c d : UInt8} (hd : d ≠ 92) : ∀ {s : Str}, NoU c s -> NoU c (s.drop (D7 d s + 1))
 | [], h => by simpa using h
 | [x], h => by simp only [D7]; split <;> simp [NoU]
 | x :: y :: r, h => by
   simp only [D7]; by_cases h1 : x = d
   . rw [if_pos h1]; exact h.tail (by rw [h1]; exact hd)
   . rw [if_neg h1]; simp only [NoU] at h; by_cases h2 : x = 92
     . rw [if_pos h2] at h ⊢; have e : 2 + D7 d r + 1 = (D7 d r + 1) + 2 := (by omega); rw [e]; exact NoU.after hd h.2
     . rw [if_neg h2] at h ⊢; have e : 1 + D7 d (y :: r) + 1 = (D7 d (y :: r) + 1) + 1 := (by omega); rw [e]; exact NoU.after hd h.2
theorem NoU.before {c : UInt8} : ∀ {s : Str}, NoU c (s.take (D7 c s))
 | [] => by simp [NoU]
 | [x] => by
   simp only [D7]; split
   . simp [NoU]
   . rename_i h; simpa [NoU] using h
 | x :: y :: r => by
   simp only [D7]; by_cases h1 : x = c
   . simp [h1, NoU]
   . rw [if_neg h1]; by_cases h2 : x = 92
     . rw [if_pos h2]; have e : 2 + D7 c r = D7 c r + 2 := (by omega); rw [e]; refine ⟨h1, ?_⟩; rw [if_pos h2]; exact NoU.before
     . rw [if_neg h2]; have ih := NoU.before (c := c) (s := y :: r); have e : 1 + D7 c (y :: r) = D7 c (y :: r) + 1 := (by omega); rw [e, take_succ_cons]; generalize List.take (D7 c (y :: r)) (y :: r) = t at *; cases t with
       | nil => exact h1
       | cons z t => exact ⟨h1, by rw [if_neg h2]; exact ih⟩
theorem b2o : ∀ (n : Nat) (s : Str), s.length <= n -> ∀ p ∈ M4 s, NoU 44 p := by
 intro n
 induction n with
 | zero =>
   intro s hn p hp; have : s = [] := length_eq_zero_iff.1 (by omega); subst this; rw [X6 (by simp)] at hp; simp at hp; subst hp; simp [NoU]
 | succ n ih =>
   intro s hn p hp; by_cases h : D7 44 s < s.length
   . rw [a1E h] at hp; rcases mem_cons.1 hp with rfl | hp
     . exact NoU.before
     . exact ih _ (by simp only [length_drop]; omega) p hp
   . rw [X6 h] at hp; have : p = s := (by simpa using hp); subst this; have h2 := NoU.before (c := 44) (s := p)
     rwa [ttl (by omega)] at h2
abbrev F8 := Str × Str
def E9 (p : F8) : D := .agg [.str p.1, .str p.2]
def F2 (l : List F8) : D := .sl (l.map E9)
def Q2 (s : Str) : F8 × Int :=
 if D7 61 s < s.length then
   (match N5 (F1 (s.drop (D7 61 s + 1))) with
    | none => (([], []), 4)
    | some v => if K5 (F1 (s.take (D7 61 s))) = false then (([], []), 5) else if I9 v = false then (([], []), 8) else ((F1 (s.take (D7 61 s)), v), 0))
 else (([], []), 4)
def J0 (out : List F8) : List Str -> List F8 × Int
 | [] => if 8 < out.length then ([], 3) else (out, 0)
 | p :: ps => if (Q2 p).2 = 0 then J0 (out ++ [(Q2 p).1]) ps else ([], (Q2 p).2)
def D3 (s : Str) : List F8 × Int := if s = [] then ([], 0) else J0 [] (M4 s)
def sqz (prev : UInt8) : Str -> Str
 | [] => []
 | x :: r => if x = 32 /\ prev = 32 then sqz x r else x :: sqz x r
def S8 (s : Str) : Str := sqz 0 (D2 (F1 s))
def Q1 (s : Str) : Str := s.flatMap fun c => if P5 c = true then [92, c] else [c]
def V5 (p : F8) : Str := D2 p.1 ++ 61 :: Q1 (S8 p.2)
def O9 (p : F8) : Int := if K5 p.1 = false then 5 else if I9 p.2 = false then 8 else 0
def W9 : List F8 -> Int
 | [] => 0
 | p :: l => if O9 p = 0 then W9 l else O9 p
def V7 (l : List F8) : Int := if W9 l = 0 then (if 8 < l.length then 3 else 0) else W9 l
def F9 (l : List F8) : Str × Int := if V7 l = 0 then (D9 44 (l.map V5), 0) else ([], V7 l)
def K3 (s : Str) : Option (List F8) := if (D3 s).2 = 0 /\ F9 (D3 s).1 = (s, 0) then some (D3 s).1 else none
def H2 (s : Str) : Bool := (K3 s).isSome
def CU : Str -> Prop
 | [] => True
 | [x] => x ≠ 92 /\ x ≠ 44
 | x :: y :: r => x ≠ 44 /\ if x = 92 then CU r else CU (y :: r)
theorem CU.next : ∀ {p : Str}, CU p -> ∀ (r : Str), D7 44 (p ++ 44 :: r) = p.length
 | [], _, r => by cases r <;> simp [D7]
 | [x], h, r => by
   simp only [CU] at h; have i := CU.next (p := []) trivial r; simp only [nil_append] at i; simp [D7, h.1, h.2, i]
 | x :: y :: t, h, r => by
   simp only [CU] at h; by_cases h2 : x = 92
   . rw [if_pos h2] at h; have i := CU.next h.2 r; simp only [cons_append, D7, if_neg h.1, if_pos h2, i, length_cons]; omega
   . rw [if_neg h2] at h; have i := CU.next h.2 r; simp only [cons_append] at i; simp only [cons_append, D7, if_neg h.1, if_neg h2, i, length_cons]; omega
theorem CU.all : ∀ {p : Str}, CU p -> D7 44 p = p.length
 | [], _ => by simp [D7]
 | [x], h => by simp only [CU] at h; simp [D7, h.2]
 | x :: y :: t, h => by
   simp only [CU] at h; by_cases h2 : x = 92
   . rw [if_pos h2] at h; have i := CU.all h.2; simp only [D7, if_neg h.1, if_pos h2, i, length_cons]; omega
   . rw [if_neg h2] at h; have i := CU.all h.2; simp only [D7, if_neg h.1, if_neg h2, i, length_cons]; omega
theorem CU.cons {x : UInt8} {s : Str} (h1 : x ≠ 92) (h2 : x ≠ 44) (h : CU s) : CU (x :: s) := by
 cases s with
 | nil => exact ⟨h1, h2⟩
 | cons y r => exact ⟨h2, by rw [if_neg h1]; exact h⟩
theorem CU.esc {y : UInt8} {s : Str} (h : CU s) : CU (92 :: y :: s) := ⟨by decide, by rw [if_pos rfl]; exact h⟩
theorem CU.escV : ∀ (s : Str), CU (Q1 s)
 | [] => trivial
 | c :: s => by
   have ih := CU.escV s; have e : Tz.Q1 (c :: s) = (if P5 c = true then [92, c] else [c]) ++ Tz.Q1 s := (by simp [Tz.Q1]); rw [e]; by_cases h : P5 c = true
   . rw [if_pos h]; exact ih.esc
   . rw [if_neg h]; refine ih.cons ?_ ?_
     . rintro rfl; exact h (by decide)
     . rintro rfl; exact h (by decide)
theorem CU.pre : ∀ {a : Str} {b : Str}, (∀ x ∈ a, x ≠ 92 /\ x ≠ 44) -> CU b -> CU (a ++ b)
 | [], b, _, h => h
 | x :: a, b, hx, h => CU.cons (hx x (by simp)).1 (hx x (by simp)).2 (CU.pre (fun y hy => hx y (by simp [hy])) h)
theorem c2G {c : UInt8} (h : X2 c = true) : c ≠ 92 /\ c ≠ 44 /\ c ≠ 61 := by
 refine ⟨?_, ?_, ?_⟩ <;> (rintro rfl; revert h; decide)
theorem c1y {c : UInt8} (h : X2 c = true) : X2 (a0H c) = true := by
 by_cases h1 : 65 <= (c.toNat : Int) /\ (c.toNat : Int) <= 90
 . have := a3O c h1.1 h1.2; simp only [X2, a0k, Bool.or_eq_true, Bool.and_eq_true, decide_eq_true_eq]
   left; left; left
   omega
 . rw [a0H, if_neg h1]; exact h
theorem b7k {p : F8} (h : K5 p.1 = true) : CU (V5 p) := by
 refine CU.pre (fun x hx => ?_) ((CU.escV _).cons (by decide) (by decide)); simp only [D2, mem_map] at hx; obtain ⟨c, hc, rfl⟩ := hx; simp only [K5, Bool.and_eq_true, all_eq_true] at h; have := c2G (c1y (h.2 c hc)); exact ⟨this.1, this.2.1⟩
theorem b6M (p : F8) : V5 p ≠ [] := by simp [V5]
theorem a5p : ∀ {l : List Str}, l ≠ [] -> (∀ p ∈ l, CU p) -> M4 (D9 44 l) = l
 | [], h, _ => absurd rfl h
 | [p], _, h => by
   simp only [D9]; exact X6 (by rw [(h p (by simp)).all]; omega)
 | p :: q :: l, _, h => by
   have hp := h p (by simp); have ih := a5p (l := q :: l) (by simp) (fun x hx => h x (by simp at hx ⊢; right; exact hx)); have e : D9 44 (p :: q :: l) = p ++ 44 :: D9 44 (q :: l) := rfl; have hn := hp.next (D9 44 (q :: l)); rw [e, a1E (by rw [hn]; simp), hn]; have e1 : List.take p.length (p ++ 44 :: D9 44 (q :: l)) = p := (by simp); have e2 : List.drop (p.length + 1) (p ++ 44 :: D9 44 (q :: l)) = D9 44 (q :: l) := by rw [<- drop_drop]; simp
   rw [e1, e2, ih]
theorem b4e {l : List Str} (h : l ≠ []) (hn : ∀ p ∈ l, p ≠ []) : D9 44 l ≠ [] := by
 match l, h with
 | [p], _ => exact hn p (by simp)
 | p :: q :: l, _ => simp [D9]
def NP (p : F8) : Prop := Q2 (V5 p) = (p, 0)
theorem a6M {s : Str} {p : F8} (h : Q2 s = (p, 0)) : K5 p.1 = true /\ I9 p.2 = true := by
 unfold Q2 at h; split at h
 . split at h
   . simp at h
   . split at h
     . simp at h
     . split at h
       . simp at h
       . rename_i h1 h2
         simp only [Prod.mk.injEq, and_true] at h; obtain ⟨rfl⟩ := h; exact ⟨by simpa using h1, by simpa using h2⟩
 . simp at h
theorem NP.pairE {p : F8} (h : NP p) : O9 p = 0 := by
 have := a6M h; simp [Tz.O9, this.1, this.2]
theorem a3j {l : List F8} : W9 l = 0 ↔ ∀ p ∈ l, O9 p = 0 := by
 induction l with
 | nil => simp [W9]
 | cons p l ih =>
   simp only [W9, mem_cons, forall_eq_or_imp]; by_cases h : O9 p = 0
   . simp [h, ih]
   . simp [h]
theorem b0G : ∀ {ps : List Str} {qs out : List F8}, ps.length = qs.length -> (∀ i (h1 : i < ps.length) (h2 : i < qs.length), Q2 ps[i] = (qs[i], 0)) -> J0 out ps = if 8 < (out ++ qs).length then ([], 3) else (out ++ qs, 0)
 | [], [], out, _, _ => by simp [J0]
 | p :: ps, q :: qs, out, hl, h => by
   have h0 := h 0 (by simp) (by simp); simp only [getElem_cons_zero] at h0; have ih := b0G (ps := ps) (qs := qs) (out := out ++ [q]) (by simpa using hl) (fun i h1 h2 => by
     have := h (i + 1) (by simpa using h1) (by simpa using h2); simpa using this)
   simp only [J0, h0, if_true, ih, append_assoc, singleton_append]
 | [], _ :: _, _, hl, _ => by simp at hl
 | _ :: _, [], _, hl, _ => by simp at hl
theorem a6w : ∀ {ps : List Str} {out r : List F8}, J0 out ps = (r, 0) -> ∃ qs, r = out ++ qs /\ ps.length = qs.length /\ r.length <= 8 /\ ∀ i (h1 : i < ps.length) (h2 : i < qs.length), Q2 ps[i] = (qs[i], 0)
 | [], out, r, h => by
   simp only [J0] at h; split at h
   . simp at h
   . rename_i h8
     simp only [Prod.mk.injEq, and_true] at h; subst h; exact ⟨[], by simp, rfl, by omega, fun i h1 => by simp at h1⟩
 | p :: ps, out, r, h => by
   simp only [J0] at h; split at h
   . rename_i h0
     obtain ⟨qs, hr, hl, h8, hq⟩ := a6w h; refine ⟨(Q2 p).1 :: qs, by rw [hr]; simp, by simp [hl], h8, fun i h1 h2 => ?_⟩; cases i with
     | zero => simp only [getElem_cons_zero]; rw [<- h0]
     | succ i => simpa using hq i (by simpa using h1) (by simpa using h2)
   . rename_i h0
     simp only [Prod.mk.injEq] at h; exact absurd h.2 h0
theorem c2Z {l : List F8} (hn : ∀ p ∈ l, NP p) (h8 : l.length <= 8) : F9 l = (D9 44 (l.map V5), 0) /\ K3 (D9 44 (l.map V5)) = some l := by
 have hE : W9 l = 0 := a3j.2 fun p hp => (hn p hp).pairE
 have hf : F9 l = (D9 44 (l.map V5), 0) := by
   have hc : V7 l = 0 := by rw [V7, if_pos hE, if_neg (by omega)]
   rw [F9, if_pos hc]
 have hp : D3 (D9 44 (l.map V5)) = (l, 0) := by
   unfold D3; by_cases h : l = []
   . subst h; rfl
   . rw [if_neg (b4e (by simpa using h) (by simp only [mem_map]; rintro _ ⟨p, _, rfl⟩; exact b6M p)), a5p (by simpa using h) (by simp only [mem_map]; rintro _ ⟨p, hp, rfl⟩; exact b7k (a6M (hn p hp)).1)]; rw [b0G (qs := l) (by simp) (fun i h1 h2 => by rw [getElem_map]; exact hn l[i] (gmm h2))]; simp only [nil_append]; rw [if_neg (by omega)]
 exact ⟨hf, by rw [K3, hp, if_pos ⟨rfl, hf⟩]⟩
theorem a2j {s : Str} {l : List F8} (h : K3 s = some l) : (∀ p ∈ l, NP p) /\ l.length <= 8 /\ s = D9 44 (l.map V5) /\ D3 s = (l, 0) /\ F9 l = (s, 0) := by
 unfold K3 at h; split at h
 . rename_i hh
   obtain ⟨h0, hf⟩ := hh; simp only [Option.some.injEq] at h; subst h; have hs : s = D9 44 ((D3 s).1.map V5) := by
     unfold F9 at hf; split at hf
     . simp only [Prod.mk.injEq, and_true] at hf; exact hf.symm
     . rename_i hc
       simp only [Prod.mk.injEq] at hf; exact absurd hf.2 hc
   have hchk : W9 (D3 s).1 = 0 /\ (D3 s).1.length <= 8 := by
     unfold F9 at hf; split at hf
     . rename_i hc
       unfold V7 at hc; split at hc
       . rename_i he
         split at hc
         . simp at hc
         . exact ⟨he, by omega⟩
       . rename_i he; exact absurd hc he
     . rename_i hc
       simp only [Prod.mk.injEq] at hf; exact absurd hf.2 hc
   have hP : D3 s = ((D3 s).1, 0) := by rw [<- h0]
   refine ⟨fun p hp => ?_, hchk.2, hs, hP, hf⟩; generalize hl : (D3 s).1 = l at *; by_cases hnil : l = []
   . subst hnil; simp at hp
   . have hnm : ∀ q ∈ l, K5 q.1 = true := fun q hq => by
       have := (a3j.1 hchk.1) q hq; unfold O9 at this; split at this
       . simp at this
       . rename_i h1; simpa using h1
     have hsn : s ≠ [] := by
       rw [hs]; exact b4e (by simpa using hnil) (by simp only [mem_map]; rintro _ ⟨p, _, rfl⟩; exact b6M p)
     have hpc : M4 s = l.map V5 := by
       rw [hs]; exact a5p (by simpa using hnil) (by simp only [mem_map]; rintro _ ⟨q, hq, rfl⟩; exact b7k (hnm q hq))
     rw [D3, if_neg hsn, hpc] at hP; obtain ⟨qs, hr, hlen, _, hq⟩ := a6w hP; simp only [nil_append] at hr; subst hr; obtain ⟨i, hi, rfl⟩ := getElem_of_mem hp; have := hq i (by simpa using hi) hi; rw [getElem_map] at this; exact this
 . cases h
theorem b3n {s t : Str} {l : List F8} (h1 : K3 s = some l) (h2 : K3 t = some l) : s = t := by rw [(a2j h1).2.2.1, (a2j h2).2.2.1]
theorem c1c {s t : Str} {l m : List F8} (h1 : K3 s = some l) (h2 : K3 t = some m) {n : List F8} (hn : ∀ p ∈ n, p ∈ l \/ p ∈ m) (h8 : n.length <= 8) : F9 n = (D9 44 (n.map V5), 0) /\ K3 (D9 44 (n.map V5)) = some n :=
 c2Z (fun p hp => by
   rcases hn p hp with h | h
   . exact (a2j h1).1 p h
   . exact (a2j h2).1 p h) h8
def K8 (s : Str) : Nat := ((K3 s).getD []).length
abbrev Chg := Csn × Int × Str × Str × Str × Str
def A3 (c : Chg) : D := .agg [A4 c.1, .int .i64 c.2.1, .str c.2.2.1, .str c.2.2.2.1, .str c.2.2.2.2.1, .str c.2.2.2.2.2]
def B3 (l : List Chg) : D := .sl (l.map A3)
structure M8 (c : Chg) : Prop where
 id : List.length c.2.2.1 < 900000
 name : List.length c.2.2.2.1 < 900000
 attr : List.length c.2.2.2.2.1 < 900000
 value : List.length c.2.2.2.2.2 < 900000
def B9 (op : Int) : Bool := decide (op = 1) || decide (op = 3)
def B7 (op : Int) : Bool := decide (op = 4) || decide (op = 5)
def C8 (c : Chg) : Bool := (!B9 c.2.1 && decide (c.2.2.2.1 ≠ [])) || (!B7 c.2.1 && (decide (c.2.2.2.2.1 ≠ []) || decide (c.2.2.2.2.2 ≠ [])))
def E8 (c : Chg) : Bool := (B9 c.2.1 && (decide (c.2.2.2.1 = []) || !H2 c.2.2.2.1)) || (B7 c.2.1 && (!K5 c.2.2.2.2.1 || decide (D2 c.2.2.2.2.1 ≠ c.2.2.2.2.1)))
def I6 (c : Chg) : Int :=
 if M9 c.1 = false \/ c.2.1 < 1 \/ 5 < c.2.1 then 2
 else if (J5 c.2.2.1).2 ≠ 0 \/ C8 c = true then 4
 else if E8 c = true then 5
 else if B7 c.2.1 = true /\ I9 c.2.2.2.2.2 = false then 8 else 0
abbrev o1W : Str := [99, 114, 101, 97, 116, 101]
abbrev o2W : Str := [114, 101, 109, 111, 118, 101]
abbrev o3W : Str := [114, 101, 110, 97, 109, 101]
abbrev o4W : Str := [112, 117, 116]
abbrev o5W : Str := [100, 114, 111, 112]
def opW (x : Int) : Str := if x = 1 then o1W else if x = 2 then o2W else if x = 3 then o3W else if x = 4 then o4W else if x = 5 then o5W else []
def opV (w : Str) : Int := if w = o1W then 1 else if w = o2W then 2 else if w = o3W then 3 else if w = o4W then 4 else if w = o5W then 5 else 0
theorem c4q {x : Int} (h1 : 1 <= x) (h5 : x <= 5) : opV (opW x) = x := by
 have : x = 1 \/ x = 2 \/ x = 3 \/ x = 4 \/ x = 5 := (by omega); rcases this with rfl | rfl | rfl | rfl | rfl <;> decide
def a1i (c : Chg) : List Str :=
 if B9 c.2.1 = true then [opW c.2.1, G8 c.1, c.2.2.1, Q3 c.2.2.2.1]
 else if B7 c.2.1 = true then [opW c.2.1, G8 c.1, c.2.2.1, Q3 c.2.2.2.2.1, Q3 c.2.2.2.2.2]
 else [opW c.2.1, G8 c.1, c.2.2.1]
def a2z (c : Chg) : Str := D9 32 (a1i c)
def H0 (c : Chg) : Str × Int := if I6 c = 0 then (a2z c, 0) else ([], I6 c)
def c3t (s : Str) (e : Int) (c : Chg) : Option Chg := if e = 0 /\ I6 c = 0 /\ a2z c = s then some c else none
def b7J (s : Str) : List Str -> Option Chg
 | [a, b, i] => c3t s (J5 b).2 ((J5 b).1, opV a, i, [], [], [])
 | [a, b, i, n] => c3t s (J5 b).2 ((J5 b).1, opV a, i, (a5B n).1, [], [])
 | [a, b, i, x, y] => c3t s (J5 b).2 ((J5 b).1, opV a, i, [], (a5B x).1, (a5B y).1)
 | _ => none
def c4d (s : Str) : Option Chg := b7J s (a0T 32 s)
def L5 : Chg := ((0, 0, 0), 0, [], [], [], [])
structure OkC (c : Chg) : Prop where
 num : M9 c.1 = true
 op1 : 1 <= c.2.1
 op5 : c.2.1 <= 5
 id : (J5 c.2.2.1).2 = 0
 used : C8 c = false
 name : E8 c = false
 value : ¬ (B7 c.2.1 = true /\ I9 c.2.2.2.2.2 = false)
theorem U7 {c : Chg} : I6 c = 0 ↔ OkC c := by
 unfold I6; constructor
 . intro h; split at h
   . cases h
   . rename_i h1
     split at h
     . cases h
     . rename_i h2
       split at h
       . cases h
       . rename_i h3
         split at h
         . cases h
         . rename_i h4
           simp only [not_or, Bool.not_eq_false, Int.not_lt] at h1; simp only [not_or, Classical.not_not, Bool.not_eq_true, ne_eq] at h2; exact ⟨h1.1, h1.2.1, h1.2.2, h2.1, h2.2, by simpa using h3, h4⟩
 . rintro ⟨a, b, c', d, e, f, g⟩; rw [if_neg (by rw [a]; simp; omega), if_neg (by rw [d, e]; simp), if_neg (by rw [f]; simp), if_neg g]
theorem a6A : (32 : UInt8) ∉ G3 /\ (10 : UInt8) ∉ G3 := by decide
theorem c7o {s : Str} (h : (J5 s).2 = 0) {d : UInt8} (hd : d = 32 \/ d = 10) : d ∉ s := by
 have h1 : J5 s = ((J5 s).1, 0) := by rw [<- h]
 have h2 := (a2B h1).1; rw [<- h2]; rcases hd with rfl | rfl
 . exact a3X a6A.1 (by decide) (by decide)
 . exact a3X a6A.2 (by decide) (by decide)
theorem c5O {x : Int} {d : UInt8} (hd : d = 32 \/ d = 10) : d ∉ opW x := by
 unfold opW; rcases hd with rfl | rfl
 all_goals
   split
   . decide
   . split
     . decide
     . split
       . decide
       . split
         . decide
         . split <;> decide
theorem b9Q {c : Chg} (h : OkC c) {d : UInt8} (hd : d = 32 \/ d = 10) : ∀ w ∈ a1i c, d ∉ w := by
 have hf : d ∉ G8 c.1 := by
   rcases hd with rfl | rfl
   . exact a3X a6A.1 (by decide) (by decide)
   . exact a3X a6A.2 (by decide) (by decide)
 have hi := c7o h.id hd; have ho := c5O (x := c.2.1) hd; have he : ∀ s, d ∉ Q3 s := fun s => by
   rcases hd with rfl | rfl
   . exact c1m s
   . exact c1F s
 unfold a1i; intro w hw; split at hw
 . simp only [mem_cons, not_mem_nil, or_false] at hw; rcases hw with rfl | rfl | rfl | rfl
   . exact ho
   . exact hf
   . exact hi
   . exact he _
 . split at hw
   . simp only [mem_cons, not_mem_nil, or_false] at hw; rcases hw with rfl | rfl | rfl | rfl | rfl
     . exact ho
     . exact hf
     . exact hi
     . exact he _
     . exact he _
   . simp only [mem_cons, not_mem_nil, or_false] at hw; rcases hw with rfl | rfl | rfl
     . exact ho
     . exact hf
     . exact hi
theorem b0E (s : Str) : (a5B (Q3 s)).1 = s := by rw [b6d (c0J s)]
theorem c0L (c : Chg) : a1i c ≠ [] := by unfold a1i; split <;> (try split) <;> simp
theorem b1c {c : Chg} (h : I6 c = 0) : c4d (a2z c) = some c := by
 have ho := U7.1 h; have hs := b0r (c := 32) (c0L c) (b9Q ho (.inl rfl)); have hp := b4K ho.num; have hv := c4q ho.op1 ho.op5; have hu := ho.used; have hl : a2z c = D9 32 (a1i c) := rfl; rw [c4d]; rw [<- hl] at hs; rw [hs]; obtain ⟨n, op, id, nm, at_, va⟩ := c; simp only [C8, Bool.or_eq_false_iff, Bool.and_eq_false_iff, Bool.not_eq_false', decide_eq_false_iff_not, Classical.not_not, ne_eq] at hu; simp only at hp hv; unfold a1i; by_cases h1 : B9 op = true
 . have h2 : B7 op = false := by
     simp only [B9, B7, Bool.or_eq_true, decide_eq_true_eq, Bool.or_eq_false_iff, decide_eq_false_iff_not] at h1 ⊢; omega
   obtain ⟨e1, e2⟩ : at_ = [] /\ va = [] := by
     rcases hu.2 with e | e
     . rw [h2] at e; cases e
     . exact e
   subst e1; subst e2; simp only [h1, if_true, b7J, hp, hv, b0E]; exact if_pos ⟨rfl, h, rfl⟩
 . have h1' : B9 op = false := (by simpa using h1); obtain rfl : nm = [] := by
     rcases hu.1 with e | e
     . rw [h1'] at e; cases e
     . exact e
   by_cases h2 : B7 op = true
   . simp only [h1', h2, Bool.false_eq_true, if_false, if_true, b7J, hp, hv, b0E]; exact if_pos ⟨rfl, h, rfl⟩
   . have h2' : B7 op = false := (by simpa using h2); obtain ⟨e1, e2⟩ : at_ = [] /\ va = [] := by
       rcases hu.2 with e | e
       . rw [h2'] at e; cases e
       . exact e
     subst e1; subst e2; simp only [h1', h2', Bool.false_eq_true, if_false, b7J, hp, hv]; exact if_pos ⟨rfl, h, rfl⟩
theorem c1D {c d : Chg} (h1 : I6 c = 0) (h2 : I6 d = 0) (h : a2z c = a2z d) : c = d := by
 have a := b1c h1; rw [h, b1c h2] at a; exact (Option.some.inj a).symm
structure d3i (S R : List Chg) : Prop where
 asc : R.Pairwise fun a b => R4 a.1 b.1 < 0
 mem : ∀ r, r ∈ R ↔ (r ∈ S /\ I6 r = 0 /\ ∀ r' ∈ S, I6 r' = 0 -> r'.1 = r.1 -> a2z r <= a2z r')
theorem b3L (a b : UInt8) : ((a.toNat : Int) = (b.toNat : Int)) ↔ a = b := by
 constructor
 . intro h; have : a.toNat = b.toNat := (by omega); exact UInt8.toNat_inj.1 this
 . rintro rfl; rfl
theorem b4t (c : UInt8) : P5 c = (decide ((c.toNat : Int) = 44) || decide ((c.toNat : Int) = 61) || decide ((c.toNat : Int) = 43) || decide ((c.toNat : Int) = 92)) := by
 have h := fun k (hk : k < 256) => J2 c k hk
 have h1 := h 44 (by omega); have h2 := h 61 (by omega); have h3 := h 43 (by omega); have h4 := h 92 (by omega); simp only [P5]; congr 1
 . congr 1
   . congr 1
     . exact decide_eq_decide.2 h1.symm
     . exact decide_eq_decide.2 h2.symm
   . exact decide_eq_decide.2 h3.symm
 . exact decide_eq_decide.2 h4.symm
theorem a0s (c : UInt8) : Ctr prog 170 [.d (u8 c)] (.d (.bool (P5 c))) := by
 refine fv (fun _ => false) func170 (by kernel_rfl) rfl rfl rfl rfl rfl ?_; rw [b4t]; by_cases h1 : (c.toNat : Int) = 44 <;> by_cases h2 : (c.toNat : Int) = 61 <;> by_cases h3 : (c.toNat : Int) = 43 <;> simp -implicitDefEqProofs [u8, h1, h2, h3]
theorem a0w (c : UInt8) : Ctr prog 138 [.d (u8 c)] (.d (.bool (P5 c))) := by
 refine fv (fun _ => false) func138 (by kernel_rfl) rfl rfl rfl rfl rfl ?_; rw [b4t]; by_cases h1 : (c.toNat : Int) = 44 <;> by_cases h2 : (c.toNat : Int) = 61 <;> by_cases h3 : (c.toNat : Int) = 43 <;> simp -implicitDefEqProofs [u8, h1, h2, h3]
theorem a6h {c : UInt8} {s : Str} {k : Nat} (h : k < s.length) : D7 c (s.drop k) = if s[k] = c then 0 else if s[k] = 92 then (if k + 1 < s.length then 2 + D7 c (s.drop (k + 2)) else 1) else 1 + D7 c (s.drop (k + 1)) := by
 rw [a0e h]; by_cases h2 : k + 1 < s.length
 . rw [a0e h2, D7]; simp only [if_pos h2]
 . have e : s.drop (k + 1) = [] := drop_eq_nil_of_le (by omega); rw [e, D7]; simp only [if_neg h2, D7]; by_cases h3 : s[k] = 92 <;> simp [h3]
def a1p (c : UInt8) (s : Str) : Int := if D7 c s < s.length then (D7 c s : Int) else -1
def NxI (c : UInt8) (s : Str) (k : Nat) : Prop := (k <= s.length -> D7 c s = k + D7 c (s.drop k)) /\ (s.length < k -> D7 c s = s.length)
theorem NxI.zero (c : UInt8) (s : Str) : NxI c s 0 := ⟨fun _ => by simp, fun h => by omega⟩
theorem NxI.hit {c : UInt8} {s : Str} {k : Nat} (h : NxI c s k) (hk : k < s.length) (e : s[k] = c) : D7 c s = k := by
 rw [h.1 (by omega), a6h hk, if_pos e]; rfl
theorem NxI.one {c : UInt8} {s : Str} {k : Nat} (h : NxI c s k) (hk : k < s.length) (e : s[k] ≠ c) (e2 : s[k] ≠ 92) : NxI c s (k + 1) := by
 refine ⟨fun _ => ?_, fun h => by omega⟩; rw [h.1 (by omega), a6h hk, if_neg e, if_neg e2]; omega
theorem NxI.two {c : UInt8} {s : Str} {k : Nat} (h : NxI c s k) (hk : k < s.length) (e : s[k] ≠ c) (e2 : s[k] = 92) : NxI c s (k + 2) := by
 have h1 := h.1 (by omega); rw [a6h hk, if_neg e, if_pos e2] at h1; refine ⟨fun h2 => ?_, fun h2 => ?_⟩
 . rw [h1, if_pos (by omega)]; omega
 . rw [h1, if_neg (by omega)]; omega
theorem NxI.over {c : UInt8} {s : Str} {k : Nat} (h : NxI c s k) (hk : ¬ k < s.length) : D7 c s = s.length := by
 by_cases e : k = s.length
 . rw [h.1 (by omega), e]; simp [D7]
 . exact h.2 (by omega)
theorem b2O (s : Str) (c : UInt8) (hs : List.length s < 1000000) : Ctr prog 211 [.d (.str s), .d (u8 c)] (.d (.int .i64 (a1p c s))) := by
 refine fv (fun _ => false) func211 (by kernel_rfl) rfl rfl rfl rfl rfl ?_; simp -implicitDefEqProofs [u8]; refine F3 (List.length s + 1) (fun k τ => τ 0 = .d (.str s) /\ τ 1 = .d (.int .u8 c.toNat) /\ τ 5 = .d (.int .i64 k) /\ NxI c s k) ⟨by simp, by simp, by simp, .zero c s⟩ ?_; rintro k τ hk ⟨h0, h1, h5, hI⟩; by_cases hlt : k < List.length s
 . by_cases h2 : s[k] = c
   . have h2' : (s[k].toNat : Int) = c.toNat := (b3L _ _).2 h2; have hn := hI.hit hlt h2; simp -implicitDefEqProofs [h0, h1, h5, hlt, h2']; rw [a1p, hn, if_pos hlt]
   . have h2' : ¬ (s[k].toNat : Int) = c.toNat := fun e => h2 ((b3L _ _).1 e)
     by_cases h3 : s[k] = 92
     . have h3' : (s[k].toNat : Int) = 92 := (J2 s[k] 92 (by omega)).2 h3; have h9 : ¬ (92 : Int) = c.toNat := by rw [<- h3']; exact h2'
       simp -implicitDefEqProofs [h0, h1, h5, hlt, h2', h3', h9]; (repeat refine ai (by omega) ?_); exact b0t (k' := k + 2) (by omega) (by omega) ⟨by simp [h0], by simp [h1], by simp; omega, hI.two hlt h2 h3⟩
     . have h3' : ¬ (s[k].toNat : Int) = 92 := fun e => h3 ((J2 s[k] 92 (by omega)).1 e)
       simp -implicitDefEqProofs [h0, h1, h5, hlt, h2', h3']; (repeat refine ai (by omega) ?_); exact B8 (by omega) ⟨by simp [h0], by simp [h1], by simp, hI.one hlt h2 h3⟩
 . have hn := hI.over hlt; have hlt' : ¬ (k : Int) < (List.length s : Int) := (by omega); simp -implicitDefEqProofs [h0, h1, h5, hlt']; rw [a1p, hn, if_neg (by omega)]
theorem a4j (s : Str) (c : UInt8) (hs : List.length s < 1000000) : Ctr prog 135 [.d (.str s), .d (u8 c)] (.d (.int .i64 (D7 c s))) := by
 refine fv (fun _ => false) func135 (by kernel_rfl) rfl rfl rfl rfl rfl ?_; simp -implicitDefEqProofs [u8]; refine F3 (List.length s + 1) (fun k τ => τ 0 = .d (.str s) /\ τ 1 = .d (.int .u8 c.toNat) /\ τ 5 = .d (.int .i64 k) /\ NxI c s k) ⟨by simp, by simp, by simp, .zero c s⟩ ?_; rintro k τ hk ⟨h0, h1, h5, hI⟩; by_cases hlt : k < List.length s
 . by_cases h2 : s[k] = c
   . have h2' : (s[k].toNat : Int) = c.toNat := (b3L _ _).2 h2; have hn := hI.hit hlt h2; simp -implicitDefEqProofs [h0, h1, h5, hlt, h2', hn]
   . have h2' : ¬ (s[k].toNat : Int) = c.toNat := fun e => h2 ((b3L _ _).1 e)
     by_cases h3 : s[k] = 92
     . have h3' : (s[k].toNat : Int) = 92 := (J2 s[k] 92 (by omega)).2 h3; have h9 : ¬ (92 : Int) = c.toNat := by rw [<- h3']; exact h2'
       simp -implicitDefEqProofs [h0, h1, h5, hlt, h2', h3', h9]; (repeat refine ai (by omega) ?_); exact b0t (k' := k + 2) (by omega) (by omega) ⟨by simp [h0], by simp [h1], by simp; omega, hI.two hlt h2 h3⟩
     . have h3' : ¬ (s[k].toNat : Int) = 92 := fun e => h3 ((J2 s[k] 92 (by omega)).1 e)
       simp -implicitDefEqProofs [h0, h1, h5, hlt, h2', h3']; (repeat refine ai (by omega) ?_); exact B8 (by omega) ⟨by simp [h0], by simp [h1], by simp, hI.one hlt h2 h3⟩
 . have hn := hI.over hlt; have hlt' : ¬ (k : Int) < (List.length s : Int) := (by omega); simp -implicitDefEqProofs [h0, h1, h5, hlt', hn]
def PcI (s : Str) (m : Nat) (τ : St) : Prop := ∃ (rest : Str) (out : List Str), m = List.length rest /\ τ 0 = .d (.str rest) /\ τ 3 = .own true 9 (out.map .str) /\ List.length rest <= List.length s /\ out.length + List.length rest <= List.length s /\ M4 s = out ++ M4 rest
theorem b8S (s : Str) (hs : List.length s < 1000000) : Ctr prog 183 [.d (.str s)] (.own true 9 ((M4 s).map .str)) := by
 refine fv (fun i => decide (i < 1000000)) func183 (by kernel_rfl) rfl rfl rfl rfl rfl ?_; simp -implicitDefEqProofs; refine a2s (PcI s) (List.length s) ⟨s, [], rfl, by simp, by simp, by omega, by simp, by simp⟩ ?_; rintro m τ ⟨rest, out, rfl, h0, h3, hr, ho, hp⟩; simp -implicitDefEqProofs [h0, h3]; refine A0 (b2O rest 44 (by omega)) ?_; by_cases hlt : D7 44 rest < rest.length
 . have hx : a1p 44 rest = (D7 44 rest : Int) := by rw [a1p, if_pos hlt]
   have hp2 := a1E hlt; generalize hj : D7 44 rest = j at *; have i0 : ¬ (j : Int) < 0 := (by omega); have i1 : (0 : Int) <= (j : Int) + 1 := (by omega); have j1 : ((j : Int) + 1).toNat = j + 1 := (by omega); simp -implicitDefEqProofs [h0, h3, hx, i0, i1, j1]; (repeat refine ai (by omega) ?_); refine ⟨List.length (rest.drop (j + 1)), by simp; omega, rest.drop (j + 1), out ++ [rest.take j], rfl, ?_, by simp, by simp; omega, by simp; omega, by rw [hp, hp2]; simp⟩; simp; exact ttl (by simp)
 . have hx : a1p 44 rest = -1 := by rw [a1p, if_neg hlt]
   simp -implicitDefEqProofs [h0, h3, hx]; (repeat refine ai (by omega) ?_); rw [hp, X6 hlt]; simp
theorem b5T (c x : UInt8) (s : Str) : I8 c (x :: s) = if I8 c s = [] then (if x = c then [] else [x]) else x :: I8 c s := by
 by_cases h : I8 c s = []
 . have h' : dropWhile (fun x => decide (x = c)) s.reverse = [] := by simpa [I8] using h
   rw [if_pos h, I8, reverse_cons, dropWhile_append, h']; by_cases hx : x = c <;> simp [hx]
 . have h' : ¬ dropWhile (fun x => decide (x = c)) s.reverse = [] := fun e => h (by rw [I8, e]; rfl)
   have h2 : (dropWhile (fun x => decide (x = c)) s.reverse).isEmpty = false := by
     cases hq : dropWhile (fun x => decide (x = c)) s.reverse with
     | nil => exact absurd hq h'
     | cons a b => rfl
   rw [if_neg h, I8, reverse_cons, dropWhile_append, h2]; simp [I8]
theorem b9j {s : Str} : F1 (32 :: s) = F1 s := by
 rw [F1, b5T, F1]; by_cases h : I8 32 s = []
 . rw [if_pos h, h]; rfl
 . rw [if_neg h, S6, dropWhile_cons]; rfl
theorem b0O {s : Str} (h : 0 < List.length s) (e : s[List.length s - 1] = 32) : F1 s = F1 (s.take (List.length s - 1)) := by
 rw [F1, a0Y h, if_pos e, F1]
theorem b4V {s : Str} (h : s.head? ≠ some 32) (h2 : ∀ (hl : 0 < List.length s), s[List.length s - 1] ≠ 32) : F1 s = s := by
 by_cases hl : 0 < List.length s
 . rw [F1, a0Y hl, if_neg (h2 hl), S6]; cases s with
   | nil => rfl
   | cons x s =>
     rw [dropWhile_cons, if_neg]; intro hx; exact h (by simpa using hx)
 . obtain rfl : s = [] := eq_nil_of_length_eq_zero (by omega); rfl
def Tm1 (s : Str) (n : Nat) (τ : St) : Prop := ∃ t : Str, n = t.length /\ τ 0 = .d (.str t) /\ List.length t < 1000000 /\ F1 s = F1 t
def Tm2 (s : Str) (n : Nat) (τ : St) : Prop := ∃ t : Str, n = t.length /\ τ 0 = .d (.str t) /\ List.length t < 1000000 /\ F1 s = F1 t /\ t.head? ≠ some 32
theorem a7q (s : Str) (hs : List.length s < 1000000) : Ctr prog 188 [.d (.str s)] (.d (.str (F1 s))) := by
 refine fv (fun _ => false) func188 (by kernel_rfl) rfl rfl rfl rfl rfl ?_; simp -implicitDefEqProofs; refine a2s (Tm1 s) s.length ⟨s, rfl, by simp, hs, rfl⟩ ?_; rintro n τ ⟨t, rfl, h0, hl, ht⟩; have second : ∀ (t : Str) (τ : St), τ 0 = .d (.str t) -> List.length t < 1000000 -> F1 s = F1 t -> t.head? ≠ some 32 -> ∃ (m : Nat), Tm2 s m τ := fun t τ h0 hl ht hh => ⟨_, t, rfl, h0, hl, ht, hh⟩
 cases t with
 | nil =>
   simp -implicitDefEqProofs [h0]; refine a2s (Tm2 s) 0 ⟨[], rfl, by simp [h0], by simp, ht, by simp⟩ ?_; rintro n τ ⟨t, rfl, h0, hl, ht, hh⟩; by_cases hpos : 0 < List.length t
   . have hi : 0 <= (List.length t : Int) - 1 := (by omega); have hi2 : ((List.length t : Int) - 1).toNat = List.length t - 1 := (by omega); have hi3 : List.length t - 1 < List.length t := (by omega); have hi6 : 1 <= (List.length t : Int) := (by omega); have hz : ¬ t = [] := fun e => by subst e; simp at hpos
     by_cases hx : t[List.length t - 1] = 32
     . have hx' : (t[List.length t - 1].toNat : Int) = 32 := (J2 _ 32 (by omega)).2 hx; have e := b0O hpos hx; simp -implicitDefEqProofs [h0, hpos, hi, hi2, hi3, hi6, hx', hz]; (repeat refine ai (by omega) ?_); refine ⟨List.length t - 1, by omega, t.take (List.length t - 1), by rw [length_take]; omega, by simp, by rw [length_take]; omega, by rw [ht, e], ?_⟩; cases t with
       | nil => simp
       | cons x t =>
         cases t with
         | nil => simp
         | cons y t => simpa using hh
     . have hx' : ¬ (t[List.length t - 1].toNat : Int) = 32 := fun e => hx ((J2 _ 32 (by omega)).1 e)
       have e := b4V hh (fun _ => hx); simp -implicitDefEqProofs [h0, hpos, hi, hi2, hi3, hi6, hx', hz]; (repeat refine ai (by omega) ?_); rw [ht, e]
   . obtain rfl : t = [] := eq_nil_of_length_eq_zero (by omega); simp -implicitDefEqProofs [h0]; rw [ht]; rfl
 | cons x t =>
   by_cases hx : x = 32
   . subst hx; have e := b9j (s := t); simp -implicitDefEqProofs [h0]; exact ⟨_, by omega, t, rfl, by simp, by simp at hl; omega, by rw [ht, e]⟩
   . have hx' : ¬ (x.toNat : Int) = 32 := fun e => hx ((J2 _ 32 (by omega)).1 e)
     have hh : (x :: t).head? ≠ some 32 := (by simpa using hx); simp -implicitDefEqProofs [h0, hx']; generalize hq : x :: t = q at *; refine a2s (Tm2 s) q.length ⟨q, rfl, by simp [h0], hl, ht, hh⟩ ?_; clear hq hh ht hl h0; rintro n τ ⟨t, rfl, h0, hl, ht, hh⟩; by_cases hpos : 0 < List.length t
     . have hi : 0 <= (List.length t : Int) - 1 := (by omega); have hi2 : ((List.length t : Int) - 1).toNat = List.length t - 1 := (by omega); have hi3 : List.length t - 1 < List.length t := (by omega); have hi6 : 1 <= (List.length t : Int) := (by omega); have hz : ¬ t = [] := fun e => by subst e; simp at hpos
       by_cases hx : t[List.length t - 1] = 32
       . have hx' : (t[List.length t - 1].toNat : Int) = 32 := (J2 _ 32 (by omega)).2 hx; have e := b0O hpos hx; simp -implicitDefEqProofs [h0, hpos, hi, hi2, hi3, hi6, hx', hz]; (repeat refine ai (by omega) ?_); refine ⟨List.length t - 1, by omega, t.take (List.length t - 1), by rw [length_take]; omega, by simp, by rw [length_take]; omega, by rw [ht, e], ?_⟩; cases t with
         | nil => simp
         | cons x t =>
           cases t with
           | nil => simp
           | cons y t => simpa using hh
       . have hx' : ¬ (t[List.length t - 1].toNat : Int) = 32 := fun e => hx ((J2 _ 32 (by omega)).1 e)
         have e := b4V hh (fun _ => hx); simp -implicitDefEqProofs [h0, hpos, hi, hi2, hi3, hi6, hx', hz]; (repeat refine ai (by omega) ?_); rw [ht, e]
     . obtain rfl : t = [] := eq_nil_of_length_eq_zero (by omega); simp -implicitDefEqProofs [h0]; rw [ht]; rfl
theorem a0h (s : Str) : (F1 s).length <= s.length := by
 have h1 : (S6 32 (I8 32 s)).length <= (I8 32 s).length := (dropWhile_sublist _).length_le; have h2 : (I8 32 s).length <= s.length := by
   rw [I8, length_reverse]; have := (dropWhile_sublist (l := s.reverse) fun x => decide (x = 32)).length_le; simpa using this
 rw [F1]; omega
theorem b6k (s : Str) : (S6 32 s).head? ≠ some 32 := by
 induction s with
 | nil => simp [S6]
 | cons x s ih =>
   rw [S6, dropWhile_cons]; by_cases hx : x = 32
   . rw [if_pos (by simp [hx])]; exact ih
   . rw [if_neg (by simp [hx])]; simpa using hx
theorem c5k (c : UInt8) : a0H c = 32 ↔ c = 32 := by
 constructor
 . intro h; by_cases h1 : 65 <= (c.toNat : Int) /\ (c.toNat : Int) <= 90
   . have := a3O c h1.1 h1.2; rw [h] at this; have h3 : ((32 : UInt8).toNat : Int) = 32 := rfl; omega
   . rw [a0H, if_neg h1] at h; exact h
 . rintro rfl; decide
theorem b4O {s : Str} (h : (D2 (F1 s)).head? = some 32) : False := by
 have := b6k (I8 32 s); rw [<- F1] at this; cases hq : F1 s with
 | nil => rw [hq] at h; simp [D2] at h
 | cons x t =>
   rw [hq] at h this; simp only [D2, map_cons, head?_cons, Option.some.injEq] at h; exact this (by simp [(c5k x).1 h])
theorem a9O : ∀ (a : Str) (p x : UInt8), sqz p (a ++ [x]) = sqz p a ++ (if x = 32 /\ a.getLast?.getD p = 32 then [] else [x])
 | [], p, x => by by_cases h : x = 32 /\ p = 32 <;> simp [sqz, h]
 | y :: a, p, x => by
   have ih1 := a9O a y x; have ih2 := a9O a p x; have hl : (y :: a).getLast?.getD p = a.getLast?.getD y := by rw [getLast?_cons]; rfl
   rw [hl]; simp only [cons_append, sqz]; by_cases h : y = 32 /\ p = 32
   . obtain ⟨rfl, rfl⟩ := h; simp only [and_self, if_true]; exact ih1
   . rw [if_neg h, if_neg h, ih1]; rfl
theorem a5F : ∀ (a : Str) (p : UInt8), (sqz p a).length <= a.length
 | [], _ => by simp [sqz]
 | y :: a, p => by
   have h1 := a5F a p; have h2 := a5F a y; simp only [sqz]; split <;> simp <;> omega
theorem a8q (s : Str) : (S8 s).length <= s.length := by
 have h1 := a5F (D2 (F1 s)) 0; rw [N9] at h1; have := a0h s; rw [S8]; omega
theorem b3X {t : Str} {k : Nat} (h : k <= t.length) (h0 : 0 < k) (p : UInt8) : (t.take k).getLast?.getD p = t[k - 1]'(by omega) := by
 rw [getLast?_eq_getElem?, length_take, Nat.min_eq_left h, getElem?_take, if_pos (by omega), getElem?_eq_getElem (by omega)]; rfl
theorem a9L {t : Str} {k : Nat} (h : k < t.length) (hh : t.head? ≠ some 32) : sqz 0 (t.take (k + 1)) = sqz 0 (t.take k) ++ (if t[k] = 32 /\ (∀ (h0 : 0 < k), t[k - 1] = 32) then [] else [t[k]]) := by
 rw [F6 h, a9O]; congr 1
 by_cases h0 : 0 < k
 . rw [b3X (by omega) h0]; by_cases h1 : t[k] = 32 /\ t[k - 1] = 32
   . rw [if_pos h1, if_pos ⟨h1.1, fun _ => h1.2⟩]
   . rw [if_neg h1, if_neg fun e => h1 ⟨e.1, e.2 h0⟩]
 . obtain rfl : k = 0 := by omega
   have h2 : t[0] ≠ 32 := by
     intro e; apply hh
     cases t with
     | nil => simp at h
     | cons x t => simpa using e
   rw [if_neg (fun e => h2 e.1), if_neg (fun e => h2 e.1)]
theorem b3b {t : Str} {k : Nat} (h : k < t.length) (hh : t.head? ≠ some 32) (e : t[k] ≠ 32) : sqz 0 (t.take (k + 1)) = sqz 0 (t.take k) ++ [t[k]] := by
 rw [a9L h hh, if_neg fun q => e q.1]
theorem b2j {t : Str} {k : Nat} (h : k < t.length) (hh : t.head? ≠ some 32) (h0 : 0 < k) (e : t[k - 1] ≠ 32) : sqz 0 (t.take (k + 1)) = sqz 0 (t.take k) ++ [t[k]] := by
 rw [a9L h hh, if_neg fun q => e (q.2 h0)]
theorem b2w {t : Str} {k : Nat} (h : k < t.length) (hh : t.head? ≠ some 32) (e : t[k] = 32) (h0 : 0 < k) (e2 : t[k - 1] = 32) : sqz 0 (t.take (k + 1)) = sqz 0 (t.take k) := by
 rw [a9L h hh, if_pos ⟨e, fun _ => e2⟩, append_nil]
theorem c2K (s : Str) (hs : List.length s < 1000000) : Ctr prog 169 [.d (.str s)] (.d (.str (S8 s))) := by
 refine fv (fun _ => false) func169 (by kernel_rfl) rfl rfl rfl rfl rfl ?_; have ht := a0h s; have hl : List.length (D2 (F1 s)) < 1000000 := by rw [N9]; omega
 have hh : (D2 (F1 s)).head? ≠ some 32 := fun h => b4O h
 have hf : S8 s = sqz 0 (D2 (F1 s)) := rfl; have c2 := a2F (F1 s) (by omega); simp -implicitDefEqProofs; refine A0 (a8L s hs) ?_; simp -implicitDefEqProofs; refine A0 c2 ?_; clear c2; rw [hf]; generalize D2 (F1 s) = t at *; simp -implicitDefEqProofs; refine F3 t.length (fun k τ => τ 3 = .d (.str t) /\ τ 10 = .d (.int .i64 t.length) /\ τ 11 = .d (.int .i64 k) /\ τ 4 = .own false 5 (B5 (sqz 0 (t.take k)))) ⟨by simp, by simp, by simp, by simp [sqz, B5]⟩ ?_; rintro k τ hk ⟨h3, h10, h11, h4⟩; by_cases hlt : k < List.length t
 . have hq := a5F (t.take k) 0; rw [length_take] at hq; by_cases e1 : t[k] = 32
   . have e1' : (t[k].toNat : Int) = 32 := (J2 _ 32 (by omega)).2 e1; have h0 : 0 < k := by
       rcases Nat.eq_zero_or_pos k with rfl | h
       . exfalso
         apply hh
         cases t with
         | nil => simp at hlt
         | cons x t => simpa using e1
       . exact h
     have i1 : (0 : Int) <= (k : Int) - 1 := (by omega); have j1 : ((k : Int) - 1).toNat = k - 1 := (by omega); have l1 : k - 1 < List.length t := (by omega); by_cases e2 : t[k - 1] = 32
     . have e2' : (t[k - 1].toNat : Int) = 32 := (J2 _ 32 (by omega)).2 e2; have hs3 := b2w hlt hh e1 h0 e2; simp -implicitDefEqProofs [h3, h10, h11, h4, hlt, e1', e2', i1, j1, l1]; (repeat refine ai (by omega) ?_); refine B8 hlt ⟨by simp [h3], by simp [h10], by simp, by simp [hs3, h4]⟩
     . have e2' : ¬ (t[k - 1].toNat : Int) = 32 := fun e => e2 ((J2 _ 32 (by omega)).1 e)
       have hs3 := b2j hlt hh h0 e2; simp -implicitDefEqProofs [h3, h10, h11, h4, hlt, e1', e2', i1, j1, l1]; (repeat refine And.intro (by first | omega | (simp [B5]; omega)) ?_); refine B8 hlt ⟨by simp [h3], by simp [h10], by simp, by simp [hs3, B5, e1']⟩
   . have e1' : ¬ (t[k].toNat : Int) = 32 := fun e => e1 ((J2 _ 32 (by omega)).1 e)
     have hs3 := b3b hlt hh e1; simp -implicitDefEqProofs [h3, h10, h11, h4, hlt, e1']; (repeat refine And.intro (by first | omega | (simp [B5]; omega)) ?_); refine B8 hlt ⟨by simp [h3], by simp [h10], by simp, by simp [hs3, B5]⟩
 . rw [ttl (by omega)] at h4; simp -implicitDefEqProofs [h3, h10, h11, h4, hlt]
theorem b9J (s : Str) (hs : List.length s < 1000000) : Ctr prog 137 [.d (.str s)] (.d (.str (S8 s))) := by
 refine fv (fun _ => false) func137 (by kernel_rfl) rfl rfl rfl rfl rfl ?_; have ht := a0h s; have hl : List.length (D2 (F1 s)) < 1000000 := by rw [N9]; omega
 have hh : (D2 (F1 s)).head? ≠ some 32 := fun h => b4O h
 have hf : S8 s = sqz 0 (D2 (F1 s)) := rfl; have c2 := a0l (F1 s) (by omega); simp -implicitDefEqProofs; refine A0 (a7q s hs) ?_; simp -implicitDefEqProofs; refine A0 c2 ?_; clear c2; rw [hf]; generalize D2 (F1 s) = t at *; simp -implicitDefEqProofs; refine F3 t.length (fun k τ => τ 3 = .d (.str t) /\ τ 5 = .d (.int .i64 k) /\ τ 4 = .own false 5 (B5 (sqz 0 (t.take k)))) ⟨by simp, by simp, by simp [sqz, B5]⟩ ?_; rintro k τ hk ⟨h3, h5, h4⟩; by_cases hlt : k < List.length t
 . have hq := a5F (t.take k) 0; rw [length_take] at hq; rcases Nat.eq_zero_or_pos k with h0 | h0
   . subst h0; cases t with
     | nil => simp at hlt
     | cons x t =>
     have e1 : x ≠ 32 := (by simpa using hh); have e1' : ¬ (x.toNat : Int) = 32 := fun e => e1 ((J2 _ 32 (by omega)).1 e)
     simp only [take_zero, sqz, B5, map_nil] at h4; simp -implicitDefEqProofs [h3, h5, h4, e1']; refine B8 hlt ⟨by simp [h3], by simp, by simp [sqz, e1, B5]⟩
   . have z0 : ¬ (k : Int) = 0 := (by omega); have z1 : ¬ k = 0 := (by omega); have i1 : (0 : Int) <= (k : Int) - 1 := (by omega); have j1 : ((k : Int) - 1).toNat = k - 1 := (by omega); have l1 : k - 1 < List.length t := (by omega); by_cases e1 : t[k] = 32
     . have e1' : (t[k].toNat : Int) = 32 := (J2 _ 32 (by omega)).2 e1; by_cases e2 : t[k - 1] = 32
       . have e2' : (t[k - 1].toNat : Int) = 32 := (J2 _ 32 (by omega)).2 e2; have hs3 := b2w hlt hh e1 h0 e2; simp -implicitDefEqProofs [h3, h5, h4, hlt, e1', e2', i1, j1, l1, z0, z1]; (repeat refine ai (by omega) ?_); refine B8 hlt ⟨by simp [h3], by simp, by simp [hs3, h4]⟩
       . have e2' : ¬ (t[k - 1].toNat : Int) = 32 := fun e => e2 ((J2 _ 32 (by omega)).1 e)
         have hs3 := b2j hlt hh h0 e2; simp -implicitDefEqProofs [h3, h5, h4, hlt, e1', e2', i1, j1, l1, z0, z1]; (repeat refine And.intro (by first | omega | (simp [B5]; omega)) ?_); refine B8 hlt ⟨by simp [h3], by simp, by simp [hs3, B5, e1']⟩
     . have e1' : ¬ (t[k].toNat : Int) = 32 := fun e => e1 ((J2 _ 32 (by omega)).1 e)
       have hs3 := b3b hlt hh e1; simp -implicitDefEqProofs [h3, h5, h4, hlt, e1', z0, z1]; (repeat refine And.intro (by first | omega | (simp [B5]; omega)) ?_); refine B8 hlt ⟨by simp [h3], by simp, by simp [hs3, B5]⟩
 . rw [ttl (by omega)] at h4; simp -implicitDefEqProofs [h3, h5, h4, hlt]
theorem b8y {s : Str} {k : Nat} (h : k + 1 < s.length) (e : s[k] = 92) : N5 (s.drop k) = if P5 s[k + 1] = true then (N5 (s.drop (k + 2))).map (s[k + 1] :: ·) else none := by
 rw [a0e (show k < s.length by omega), a0e h, N5, if_pos e]
theorem b7L {s : Str} {k : Nat} (h : k < s.length) (h2 : ¬ k + 1 < s.length) (e : s[k] = 92) : N5 (s.drop k) = none := by
 rw [a0e h, drop_eq_nil_of_le (by omega), N5, if_pos e]
theorem b7M {s : Str} {k : Nat} (h : k < s.length) (e : s[k] ≠ 92) : N5 (s.drop k) = if P5 s[k] = true then none else (N5 (s.drop (k + 1))).map (s[k] :: ·) := by
 rw [a0e h]; by_cases h2 : k + 1 < s.length
 . rw [a0e h2, N5, if_neg e]
 . rw [drop_eq_nil_of_le (by omega)]; simp only [N5, if_neg e]; rfl
theorem b7Z {s : Str} {k : Nat} (h : k + 1 < s.length) (e : s[k] = 92) : N6 (s.drop k) = if P5 s[k + 1] = true then (N6 (s.drop (k + 2))).map (s[k + 1] :: ·) else none := by
 rw [a0e (show k < s.length by omega), a0e h, N6, if_pos e]
theorem b8p {s : Str} {k : Nat} (h : k < s.length) (h2 : ¬ k + 1 < s.length) (e : s[k] = 92) : N6 (s.drop k) = none := by
 rw [a0e h, drop_eq_nil_of_le (by omega), N6, if_pos e]
theorem b7z {s : Str} {k : Nat} (h : k < s.length) (e : s[k] ≠ 92) : N6 (s.drop k) = if s[k] = 61 \/ s[k] = 43 then none else (N6 (s.drop (k + 1))).map (s[k] :: ·) := by
 rw [a0e h]; by_cases h2 : k + 1 < s.length
 . rw [a0e h2, N6, if_neg e]
 . rw [drop_eq_nil_of_le (by omega)]; simp only [N6, if_neg e]; rfl
theorem a6D : ∀ (n : Nat) (s : Str), s.length <= n -> ∀ v, N5 s = some v -> v.length <= s.length
 | _, [], _, v, h => by simp only [N5, Option.some.injEq] at h; subst h; simp
 | 0, x :: s, hn, _, _ => by simp at hn
 | n + 1, [x], _, v, h => by
   simp only [N5] at h; split at h
   . cases h
   . split at h
     . cases h
     . simp only [Option.some.injEq] at h; subst h; simp
 | n + 1, x :: y :: r, hn, v, h => by
   simp only [length_cons] at hn; simp only [N5] at h; split at h
   . split at h
     . obtain ⟨w, hw, rfl⟩ := Option.map_eq_some_iff.1 h; have := a6D n r (by omega) w hw; simp only [length_cons]; omega
     . cases h
   . split at h
     . cases h
     . obtain ⟨w, hw, rfl⟩ := Option.map_eq_some_iff.1 h; have := a6D n (y :: r) (by simp only [length_cons]; omega) w hw; simp only [length_cons] at this ⊢; omega
theorem a6U : ∀ (n : Nat) (s : Str), s.length <= n -> ∀ v, N6 s = some v -> v.length <= s.length
 | _, [], _, v, h => by simp only [N6, Option.some.injEq] at h; subst h; simp
 | 0, x :: s, hn, _, _ => by simp at hn
 | n + 1, [x], _, v, h => by
   simp only [N6] at h; split at h
   . cases h
   . split at h
     . cases h
     . simp only [Option.some.injEq] at h; subst h; simp
 | n + 1, x :: y :: r, hn, v, h => by
   simp only [length_cons] at hn; simp only [N6] at h; split at h
   . split at h
     . obtain ⟨w, hw, rfl⟩ := Option.map_eq_some_iff.1 h; have := a6U n r (by omega) w hw; simp only [length_cons]; omega
     . cases h
   . split at h
     . cases h
     . obtain ⟨w, hw, rfl⟩ := Option.map_eq_some_iff.1 h; have := a6U n (y :: r) (by simp only [length_cons]; omega) w hw; simp only [length_cons] at this ⊢; omega
def a0m (o : Option Str) : Str × Bool := match o with
 | some v => (v, true)
 | none => ([], false)
def VaI (f : Str -> Option Str) (s : Str) (k : Nat) (out : Str) : Prop := f s = (f (s.drop k)).map (out ++ ·) /\ out.length <= k
theorem VaI.zero {f : Str -> Option Str} (s : Str) : VaI f s 0 [] := ⟨by simp, by simp⟩
theorem VaI.one {f : Str -> Option Str} {s : Str} {k j : Nat} {out : Str} {x : UInt8} (h : VaI f s k out) (hj : k < j) (e : f (s.drop k) = (f (s.drop j)).map (x :: ·)) : VaI f s j (out ++ [x]) := by
 refine ⟨?_, ?_⟩
 . rw [h.1, e]; cases f (s.drop j) <;> simp
 . have := h.2; simp; omega
theorem VaI.none {f : Str -> Option Str} {s : Str} {k : Nat} {out : Str} (h : VaI f s k out) (e : f (s.drop k) = Option.none) : f s = Option.none := by rw [h.1, e]; rfl
theorem VaI.all {f : Str -> Option Str} {s : Str} {k : Nat} {out : Str} (h : VaI f s k out) (hk : ¬ k < s.length) (e : f [] = some []) : f s = some out := by
 rw [h.1, drop_eq_nil_of_le (by omega), e]; simp
theorem c0X (s : Str) (hs : List.length s < 1000000) : Ctr prog 212 [.d (.str s)] (.tup [.d (.str (a0m (N5 s)).1), .d (.bool (a0m (N5 s)).2)]) := by
 refine G6 (rv := .tmp 2) (rs := [.tmp 3]) (r := .d (.str (a0m (N5 s)).1)) (ys := [.d (.bool (a0m (N5 s)).2)]) (fun i => i == 1000004 || i == 5000038 || i == 5000039) (by kernel_rfl) func212 (by kernel_rfl) rfl rfl (by simp) (nbl rfl) (by kernel_rfl) rfl rfl ?_; simp -implicitDefEqProofs; refine b3G 1000000 1000001 5 (by simp) (by kernel_rfl) (by simp) (by simp) (fun b => ?_); simp -implicitDefEqProofs; refine F3 (List.length s) (fun k τ => τ 0 = .d (.str s) /\ τ 5 = .d (.int .i64 k) /\ τ 4 = .d (.raw (va b)) /\ ∃ out, VaI N5 s k out /\ a8I τ b out) ?_ ?_
 . exact ⟨by simp, by simp, by simp, [], .zero s, .nilp, .slice none 0 0, .inl rfl, by simp [b3Q], by simp [B5]⟩
 rintro k τ hk ⟨h0, h5, h4, out, hI, p, hd, hp, hb, hh⟩; have hol := hI.2; by_cases hlt : k < List.length s
 . by_cases h2 : s[k] = 92
   . have h2' : (s[k].toNat : Int) = 92 := (J2 s[k] 92 (by omega)).2 h2; by_cases h3 : k + 1 < List.length s
     . have e := b8y h3 h2; have ne : ¬ (k : Int) + 1 = (List.length s : Int) := (by omega); have i1 : (0 : Int) <= (k : Int) + 1 := (by omega); have j1 : ((k : Int) + 1).toNat = k + 1 := (by omega); by_cases h6 : P5 s[k + 1] = true
       . rw [if_pos h6] at e; simp -implicitDefEqProofs [h0, h5, h4, hlt, h2', ne, h3, i1, j1]; (repeat refine ai (by omega) ?_); refine A0 (a0s s[k + 1]) ?_; simp -implicitDefEqProofs [h0, h5, h4, hlt, h2', ne, h3, i1, j1, h6]; refine N1 [1000000, 1000001] 1000000 (J8 (s := out) (hd := hd) hp s[k + 1] (by omega)) (by simp [hb, hh]) rfl (by simp) ?_; rintro r hs' ⟨hd1, rfl⟩; simp -implicitDefEqProofs [h0, h5, h4, hlt, D8, E7]; (repeat refine ai (by omega) ?_); exact b0t (k' := k + 2) (by omega) (by omega) ⟨by simp [h0], by simp; omega, by simp [h4], out ++ [s[k + 1]], hI.one (by omega) e, .raw (va b), hd1, .inr rfl, by simp, by simp⟩
       . rw [if_neg h6] at e; have hn := hI.none e; simp -implicitDefEqProofs [h0, h5, h4, hlt, h2', ne, h3, i1, j1]; (repeat refine ai (by omega) ?_); refine A0 (a0s s[k + 1]) ?_; simp -implicitDefEqProofs [h0, h5, h4, hlt, h2', ne, h3, i1, j1, h6, a0m, hn]
     . have hn := hI.none (b7L hlt h3 h2); have ne : (k : Int) + 1 = (List.length s : Int) := (by omega); simp -implicitDefEqProofs [h0, h5, h4, hlt, h2', ne, a0m, hn]; try omega
   . have h2' : ¬ (s[k].toNat : Int) = 92 := fun e => h2 ((J2 s[k] 92 (by omega)).1 e)
     have e := b7M hlt h2; simp -implicitDefEqProofs [h0, h5, h4, hlt, h2']; refine A0 (a0s s[k]) ?_; by_cases h6 : P5 s[k] = true
     . rw [if_pos h6] at e; have hn := hI.none e; simp -implicitDefEqProofs [h0, h5, h4, hlt, h2', h6, a0m, hn]
     . rw [if_neg h6] at e; simp -implicitDefEqProofs [h0, h5, h4, hlt, h2', h6]; refine N1 [1000000, 1000001] 1000000 (J8 (s := out) (hd := hd) hp s[k] (by omega)) (by simp [hb, hh]) rfl (by simp) ?_; rintro r hs' ⟨hd1, rfl⟩; simp -implicitDefEqProofs [h0, h5, h4, hlt, D8, E7]; (repeat refine ai (by omega) ?_); exact B8 hlt ⟨by simp [h0], by simp, by simp [h4], out ++ [s[k]], hI.one (by omega) e, .raw (va b), hd1, .inr rfl, by simp, by simp⟩
 . have hv := hI.all hlt rfl; simp -implicitDefEqProofs [h0, h5, h4, hlt]; refine N1 [1000000, 1000001] 1000000 (a4Q (s := out) (hd := hd) hp) (by simp [hb, hh]) rfl (by simp) ?_; rintro r hs' ⟨rfl, rfl⟩; simp -implicitDefEqProofs [h0, h5, h4, hlt, D8, E7, a0m, hv]
theorem b7y (s : Str) (hs : List.length s < 1000000) : Ctr prog 187 [.d (.str s)] (.tup [.d (.str (a0m (N6 s)).1), .d (.bool (a0m (N6 s)).2)]) := by
 refine G6 (rv := .tmp 2) (rs := [.tmp 3]) (r := .d (.str (a0m (N6 s)).1)) (ys := [.d (.bool (a0m (N6 s)).2)]) (fun i => false) (by kernel_rfl) func187 (by kernel_rfl) rfl rfl (by simp) (nbl rfl) (by kernel_rfl) rfl rfl ?_; simp -implicitDefEqProofs; refine F3 (List.length s) (fun k τ => τ 0 = .d (.str s) /\ τ 5 = .d (.int .i64 k) /\ ∃ out, VaI N6 s k out /\ τ 4 = .own false 5 (B5 out)) ?_ ?_
 . exact ⟨by simp, by simp, [], .zero s, by simp [B5]⟩
 rintro k τ hk ⟨h0, h5, out, hI, h4⟩; have hol := hI.2; have hbl : (B5 out).length = out.length := (by simp [B5]); by_cases hlt : k < List.length s
 . by_cases h2 : s[k] = 92
   . have h2' : (s[k].toNat : Int) = 92 := (J2 s[k] 92 (by omega)).2 h2; by_cases h3 : k + 1 < List.length s
     . have e := b7Z h3 h2; have ne : ¬ (List.length s : Int) <= (k : Int) + 1 := (by omega); have i1 : (0 : Int) <= (k : Int) + 1 := (by omega); have j1 : ((k : Int) + 1).toNat = k + 1 := (by omega); by_cases h6 : P5 s[k + 1] = true
       . rw [if_pos h6] at e; simp -implicitDefEqProofs [h0, h5, h4, hlt, h2', ne, h3, i1, j1]; (repeat refine ai (by omega) ?_); refine A0 (a0w s[k + 1]) ?_; simp -implicitDefEqProofs [h0, h5, h4, hlt, h2', ne, h3, i1, j1, h6]; (repeat refine And.intro (by first | omega | (simp [B5]; omega)) ?_); exact b0t (k' := k + 2) (by omega) (by omega) ⟨by simp [h0], by simp; omega, out ++ [s[k + 1]], hI.one (by omega) e, by simp [B5]⟩
       . rw [if_neg h6] at e; have hn := hI.none e; simp -implicitDefEqProofs [h0, h5, h4, hlt, h2', ne, h3, i1, j1]; (repeat refine ai (by omega) ?_); refine A0 (a0w s[k + 1]) ?_; simp -implicitDefEqProofs [h0, h5, h4, hlt, h2', ne, h3, i1, j1, h6, a0m, hn]
     . have hn := hI.none (b8p hlt h3 h2); have ne : (List.length s : Int) <= (k : Int) + 1 := (by omega); simp -implicitDefEqProofs [h0, h5, h4, hlt, h2', ne, a0m, hn]; try omega
   . have h2' : ¬ (s[k].toNat : Int) = 92 := fun e => h2 ((J2 s[k] 92 (by omega)).1 e)
     have e := b7z hlt h2; by_cases h6 : s[k] = 61
     . have h6' : (s[k].toNat : Int) = 61 := (J2 s[k] 61 (by omega)).2 h6; rw [if_pos (.inl h6)] at e; have hn := hI.none e; simp -implicitDefEqProofs [h0, h5, h4, hlt, h2', h6', a0m, hn]
     . have h6' : ¬ (s[k].toNat : Int) = 61 := fun e => h6 ((J2 s[k] 61 (by omega)).1 e)
       by_cases h7 : s[k] = 43
       . have h7' : (s[k].toNat : Int) = 43 := (J2 s[k] 43 (by omega)).2 h7; rw [if_pos (.inr h7)] at e; have hn := hI.none e; simp -implicitDefEqProofs [h0, h5, h4, hlt, h2', h6', h7', a0m, hn]
       . have h7' : ¬ (s[k].toNat : Int) = 43 := fun e => h7 ((J2 s[k] 43 (by omega)).1 e)
         rw [if_neg (by simp [h6, h7])] at e; simp -implicitDefEqProofs [h0, h5, h4, hlt, h2', h6', h7']; (repeat refine And.intro (by first | omega | (simp [B5]; omega)) ?_); exact B8 hlt ⟨by simp [h0], by simp, out ++ [s[k]], hI.one (by omega) e, by simp [B5]⟩
 . have hv := hI.all hlt rfl; simp -implicitDefEqProofs [h0, h5, h4, hlt, a0m, hv]
theorem b6v (s : Str) (hs : List.length s < 1000000) : Ctr prog 213 [.d (.str s)] (.d (.str (F1 s))) := by
 refine fv (fun _ => false) func213 (by kernel_rfl) rfl rfl rfl rfl rfl ?_; simp -implicitDefEqProofs; refine A0 (a8L s hs) ?_; simp -implicitDefEqProofs
def a5m (s : Str) : F8 × Int :=
 if D7 61 s < s.length then
   (match N6 (F1 (s.drop (D7 61 s + 1))) with
    | none => (([], []), 4)
    | some v => if K5 (F1 (s.take (D7 61 s))) = false then (([], []), 5) else if I9 v = false then (([], []), 8) else ((F1 (s.take (D7 61 s)), v), 0))
 else (([], []), 4)
theorem a5O {s : Str} (h : NoU 44 s) : a5m s = Q2 s := by
 unfold a5m Q2; rw [a8l _ ((NoU.after (d := 61) (by decide) h).trim)]; try rfl
theorem c1V (s : Str) (hs : List.length s < 1000000) : Ctr prog 184 [.d (.str s)] (.tup [.d (E9 (Q2 s).1), .d (.int .i64 (Q2 s).2)]) := by
 refine G6 (rv := .cell 2 121) (rs := [.tmp 3]) (r := .d (E9 (Q2 s).1)) (ys := [.d (.int .i64 (Q2 s).2)]) (fun _ => false) (by kernel_rfl) func184 (by kernel_rfl) rfl rfl (by simp) (nbl rfl) (by kernel_rfl) rfl rfl ?_; simp -implicitDefEqProofs; refine A0 (b2O s 61 hs) ?_; by_cases hlt : D7 61 s < s.length
 case neg =>
   have hx : a1p 61 s = -1 := by rw [a1p, if_neg hlt]
   simp -implicitDefEqProofs [hx]; simp [Q2, hlt, E9]
 have hx : a1p 61 s = (D7 61 s : Int) := by rw [a1p, if_pos hlt]
 unfold Q2; rw [if_pos hlt]; have b1 : List.length (s.drop (D7 61 s + 1)) < 1000000 := by simp; omega
 have b2 : List.length (s.take (D7 61 s)) < 1000000 := by simp; omega
 generalize hj : D7 61 s = j at *; have htk : List.take (List.length s - (j + 1)) (List.drop (j + 1) s) = List.drop (j + 1) s := ttl (by simp); have i0 : ¬ (j : Int) < 0 := (by omega); have i1 : (0 : Int) <= (j : Int) + 1 := (by omega); have j1 : ((j : Int) + 1).toNat = j + 1 := (by omega); have c1 := b6v (s.drop (j + 1)) b1; have c2 := a8L (s.take j) b2; have t1 := a0h (s.drop (j + 1)); have t2 := a0h (s.take j); have c3 := c0X (F1 (s.drop (j + 1))) (by omega); have c4 := a9I (F1 (s.take j)) (by omega); have hvl := a6D _ (F1 (s.drop (j + 1))) (Nat.le_refl _); simp -implicitDefEqProofs [hx, i0, i1, j1, htk]; (repeat refine ai (by omega) ?_); refine A0 c1 ?_; simp -implicitDefEqProofs; refine A0 c3 ?_; generalize F1 (s.drop (j + 1)) = T at *; cases hv : N5 T with
 | none =>
   simp -implicitDefEqProofs [a0m, hv]; (repeat refine ai (by omega) ?_); refine A0 c2 ?_; generalize F1 (s.take j) = K at *; simp -implicitDefEqProofs; simp [E9]
 | some v =>
   have hv2 := hvl v hv; have c5 := a7X v (by omega); rw [a8m] at c5; simp -implicitDefEqProofs [a0m, hv]; (repeat refine ai (by omega) ?_); refine A0 c2 ?_; generalize F1 (s.take j) = K at *; simp -implicitDefEqProofs; refine A0 c4 ?_; by_cases hn : K5 K = true
   . simp -implicitDefEqProofs [hn]; refine A0 c5 ?_; by_cases hc : I9 v = true
     . simp -implicitDefEqProofs [hc]; simp [E9]
     . simp -implicitDefEqProofs [hc]; simp [E9]
   . simp -implicitDefEqProofs [hn]; simp [E9]
theorem b2t (s : Str) (hs : List.length s < 1000000) : Ctr prog 136 [.d (.str s)] (.tup [.d (E9 (a5m s).1), .d (.int .i64 (a5m s).2)]) := by
 refine G6 (rv := .cell 2 121) (rs := [.tmp 3]) (r := .d (E9 (a5m s).1)) (ys := [.d (.int .i64 (a5m s).2)]) (fun _ => false) (by kernel_rfl) func136 (by kernel_rfl) rfl rfl (by simp) (nbl rfl) (by kernel_rfl) rfl rfl ?_; simp -implicitDefEqProofs; refine A0 (a4j s 61 hs) ?_; by_cases hlt : D7 61 s < s.length
 case neg =>
   have hx : (List.length s : Int) <= (D7 61 s : Int) := (by omega); simp -implicitDefEqProofs [hx]; simp [a5m, hlt, E9]
 unfold a5m; rw [if_pos hlt]; have b1 : List.length (s.drop (D7 61 s + 1)) < 1000000 := by simp; omega
 have b2 : List.length (s.take (D7 61 s)) < 1000000 := by simp; omega
 generalize hj : D7 61 s = j at *; have htk : List.take (List.length s - (j + 1)) (List.drop (j + 1) s) = List.drop (j + 1) s := ttl (by simp); have i0 : ¬ (List.length s : Int) <= (j : Int) := (by omega); have i00 : ¬ List.length s <= j := (by omega); have i1 : (0 : Int) <= (j : Int) + 1 := (by omega); have j1 : ((j : Int) + 1).toNat = j + 1 := (by omega); have c1 := a7q (s.drop (j + 1)) b1; have c2 := a7q (s.take j) b2; have t1 := a0h (s.drop (j + 1)); have t2 := a0h (s.take j); have c3 := b7y (F1 (s.drop (j + 1))) (by omega); have c4 := b1I (F1 (s.take j)); have hvl := a6U _ (F1 (s.drop (j + 1))) (Nat.le_refl _); simp -implicitDefEqProofs [i0, i00, i1, j1, htk]; (repeat refine ai (by omega) ?_); refine A0 c1 ?_; simp -implicitDefEqProofs; refine A0 c3 ?_; generalize F1 (s.drop (j + 1)) = T at *; cases hv : N6 T with
 | none =>
   simp -implicitDefEqProofs [a0m, hv]; simp [E9]
 | some v =>
   have hv2 := hvl v hv; have c5 := a9P v; simp -implicitDefEqProofs [a0m, hv]; (repeat refine ai (by omega) ?_); refine A0 c2 ?_; generalize F1 (s.take j) = K at *; simp -implicitDefEqProofs; refine A0 c4 ?_; by_cases hn : K5 K = true
   . simp -implicitDefEqProofs [hn]; refine A0 c5 ?_; by_cases hc : I9 v = true
     . simp -implicitDefEqProofs [hc]; simp [E9]
     . simp -implicitDefEqProofs [hc]; simp [E9]
   . simp -implicitDefEqProofs [hn]; simp [E9]
theorem b5a : ∀ (n : Nat) (s : Str), s.length <= n -> (M4 s).length <= s.length + 1 /\ ∀ p ∈ M4 s, p.length <= s.length := by
 intro n
 induction n with
 | zero =>
   intro s hn; have : s = [] := length_eq_zero_iff.1 (by omega); subst this; rw [X6 (by simp)]; simp
 | succ n ih =>
   intro s hn; by_cases h : D7 44 s < s.length
   . rw [a1E h]; obtain ⟨h1, h2⟩ := ih (s.drop (D7 44 s + 1)) (by simp only [length_drop]; omega); simp only [length_drop] at h1 h2; refine ⟨by simp only [length_cons]; omega, fun p hp => ?_⟩; rcases mem_cons.1 hp with rfl | hp
     . simp only [length_take]; omega
     . have := h2 p hp; omega
   . rw [X6 h]; simp
theorem b6o {out : List F8} {ps : List Str} {k : Nat} (h : k < ps.length) : J0 out (ps.drop k) = if (Q2 ps[k]).2 = 0 then J0 (out ++ [(Q2 ps[k]).1]) (ps.drop (k + 1)) else ([], (Q2 ps[k]).2) := by
 rw [a0e h]; rfl
theorem b2k (s : Str) (hs : List.length s < 900000) : Ctr prog 132 [.d (.str s)] (.tup [.d (F2 (D3 s).1), .d (.int .i64 (D3 s).2)]) := by
 refine G6 (rv := .tmp 2) (rs := [.tmp 3]) (r := .d (F2 (D3 s).1)) (ys := [.d (.int .i64 (D3 s).2)]) (fun _ => false) (by kernel_rfl) func132 (by kernel_rfl) rfl rfl (by simp) (nbl rfl) (by kernel_rfl) rfl rfl ?_; by_cases hnil : s = []
 . simp -implicitDefEqProofs [hnil, D3, F2]
 have hP : D3 s = J0 [] (M4 s) := by rw [D3, if_neg hnil]
 have c1 := b8S s (by omega); obtain ⟨b1, b2⟩ := b5a _ s (Nat.le_refl _); rw [hP]; generalize M4 s = ps at *; obtain ⟨R, hR⟩ : ∃ R, J0 [] ps = R := ⟨_, rfl⟩; rw [hR]; simp -implicitDefEqProofs [hnil]; refine A0 c1 ?_; simp -implicitDefEqProofs; refine F3 ps.length (fun k τ => τ 12 = .own false 9 (ps.map .str) /\ τ 13 = .d (.int .i64 ps.length) /\ τ 14 = .d (.int .i64 k) /\ ∃ out : List F8, out.length = k /\ τ 4 = .own false 121 (out.map E9) /\ J0 out (ps.drop k) = R) ?_ ?_
 . exact ⟨by simp, by simp, by simp, [], rfl, by simp, by simpa using hR⟩
 rintro k τ hk ⟨h12, h13, h14, out, ho, h4, hI⟩; by_cases hlt : k < ps.length
 . have hlt' : (k : Int) < ps.length := (by omega); rw [b6o hlt] at hI; have hb := b2 _ (gmm hlt); have c2 := c1V ps[k] (by omega); simp -implicitDefEqProofs [h12, h13, h14, h4, hlt, hlt']; refine A0 c2 ?_; generalize Q2 ps[k] = C at *; obtain ⟨⟨n, v⟩, e⟩ := C; by_cases he : e = 0
   . rw [if_pos he] at hI; simp -implicitDefEqProofs [h12, h13, h14, h4, hlt, hlt', he, E9]; (repeat refine ai (by omega) ?_); exact B8 hlt ⟨by simp [h12], by simp [h13], by simp, out ++ [(n, v)], by simp [ho], by simp [E9], hI⟩
   . rw [if_neg he] at hI; subst hI; simp -implicitDefEqProofs [h12, h13, h14, h4, hlt, hlt', he, E9]; simp [F2]
 . have hlt' : ¬ (k : Int) < ps.length := (by omega); rw [drop_eq_nil_of_le (by omega), J0] at hI; by_cases h8 : 8 < out.length
   . rw [if_pos h8] at hI; subst hI; have h8' : (8 : Int) < out.length := (by omega); simp -implicitDefEqProofs [h12, h13, h14, h4, hlt, hlt', h8', F2]; try omega
   . rw [if_neg h8] at hI; subst hI; have h8' : ¬ (8 : Int) < out.length := (by omega); simp -implicitDefEqProofs [h12, h13, h14, h4, hlt, hlt', h8', F2]; try omega
def NpI (R : List F8 × Int) (s : Str) (m : Nat) (τ : St) : Prop := ∃ (rest : Str) (R5 : Bool) (out : List F8), m = (if R5 = true then List.length rest + 1 else 0) /\ τ 5 = .d (.str rest) /\ τ 6 = .d (.bool R5) /\ τ 4 = .own false 121 (out.map E9) /\
 List.length rest <= List.length s /\ out.length <= List.length s + 1 - (if R5 = true then List.length rest + 1 else 0) + 0 /\ J0 out (if R5 = true then M4 rest else []) = R
theorem a9X (s : Str) (hs : List.length s < 900000) : Ctr prog 95 [.d (.str s)] (.tup [.d (F2 (D3 s).1), .d (.int .i64 (D3 s).2)]) := by
 refine G6 (rv := .tmp 2) (rs := [.tmp 3]) (r := .d (F2 (D3 s).1)) (ys := [.d (.int .i64 (D3 s).2)]) (fun _ => false) (by kernel_rfl) func95 (by kernel_rfl) rfl rfl (by simp) (nbl rfl) (by kernel_rfl) rfl rfl ?_; obtain ⟨R, hR⟩ : ∃ R, D3 s = R := ⟨_, rfl⟩; rw [hR]; have hP : J0 [] (if (!decide (s = [])) = true then M4 s else []) = R := by
   rw [<- hR, D3]; by_cases h : s = []
   . simp [h, J0]
   . simp [h]
 simp -implicitDefEqProofs; refine a2s (NpI R s) (if (!decide (s = [])) = true then List.length s + 1 else 0) ⟨s, !decide (s = []), [], rfl, by simp, by simp, by simp, by omega, by simp, hP⟩ ?_; clear hP hR; rintro m τ ⟨rest, R5, out, rfl, h5, h6, h4, hl, ho, hI⟩; cases R5 with
 | false =>
   simp only [Bool.false_eq_true, if_false, J0] at hI ho; by_cases h8 : 8 < out.length
   . rw [if_pos h8] at hI; subst hI; have h8' : (8 : Int) < out.length := (by omega); simp -implicitDefEqProofs [h5, h6, h4, h8', F2]; try omega
   . rw [if_neg h8] at hI; subst hI; have h8' : ¬ (8 : Int) < out.length := (by omega); simp -implicitDefEqProofs [h5, h6, h4, h8', F2]; try omega
 | true =>
   simp only [if_true] at hI ho; have hno := b2o _ rest (Nat.le_refl _); have hle := a6r 44 rest; have hbl : List.length (rest.take (D7 44 rest)) < 1000000 := by simp; omega
   have c1 := b2t (rest.take (D7 44 rest)) hbl; by_cases hlt : D7 44 rest < rest.length
   . rw [a1E hlt] at hI hno; rw [a5O (hno _ (by simp))] at c1; simp only [J0] at hI; simp -implicitDefEqProofs [h5, h6, h4]; refine A0 (a4j rest 44 (by omega)) ?_; generalize D7 44 rest = j at *; have htk : List.take (List.length rest - (j + 1)) (List.drop (j + 1) rest) = List.drop (j + 1) rest := ttl (by simp); have i1 : (0 : Int) <= (j : Int) + 1 := (by omega); have j1 : ((j : Int) + 1).toNat = j + 1 := (by omega); have hlt' : (j : Int) < List.length rest := (by omega); have hdl : List.length (rest.drop (j + 1)) = List.length rest - (j + 1) := (by simp); simp -implicitDefEqProofs [h5, h6, h4]; (repeat refine ai (by omega) ?_); refine A0 c1 ?_; generalize Q2 (rest.take j) = C at *; obtain ⟨⟨n, v⟩, e⟩ := C; by_cases he : e = 0
     . simp only [he, if_true] at hI; simp -implicitDefEqProofs [h5, h6, h4, he, E9, hlt', hlt, i1, j1, htk]; (repeat refine ai (by omega) ?_); refine ⟨List.length (rest.drop (j + 1)) + 1, by omega, rest.drop (j + 1), true, out ++ [(n, v)], by simp, by simp, by simp, by simp [E9], by omega, by simp; omega, by simpa using hI⟩
     . simp only [he, if_false] at hI; subst hI; simp -implicitDefEqProofs [h5, h6, h4, he, E9, F2]
   . have hje : D7 44 rest = List.length rest := (by omega); rw [X6 hlt] at hI hno; have hte : rest.take (D7 44 rest) = rest := by rw [hje]; simp
     rw [hte, a5O (hno rest (by simp))] at c1; simp only [J0] at hI; simp -implicitDefEqProofs [h5, h6, h4]; refine A0 (a4j rest 44 (by omega)) ?_; rw [hje]; simp -implicitDefEqProofs [h5, h6, h4]; refine A0 c1 ?_; generalize Q2 rest = C at *; obtain ⟨⟨n, v⟩, e⟩ := C; by_cases he : e = 0
     . simp only [he, if_true] at hI; simp -implicitDefEqProofs [h5, h6, h4, he, E9]; (repeat refine ai (by omega) ?_); refine ⟨0, by omega, rest, false, out ++ [(n, v)], by simp, by simp [h5], by simp, by simp [E9], by omega, by simp; omega, by simpa [J0] using hI⟩
     . simp only [he, if_false] at hI; subst hI; simp -implicitDefEqProofs [h5, h6, h4, he, E9, F2]
end Go.Proofs.Tz