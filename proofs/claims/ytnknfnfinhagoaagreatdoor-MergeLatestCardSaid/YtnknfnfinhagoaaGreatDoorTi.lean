/-
  What the functions that the statements about merged states reach compute, part 4 of 6, for data of bounded size (each theorem states its bound).
-/import Derived.Test.YtnknfnfinhagoaaGreatDoorTh
import Derived.Test.YtnknfnfinhagoaaGreatDoorTf
import Derived.Test.YtnknfnfinhagoaaGreatDoorWg
import Derived.Lib.AppendZeros
import Derived.Test.YtnknfnfinhagoaaGreatDoorTg
import Derived.Test.YtnknfnfinhagoaaGreatDoorWh
open Go.Proofs.Tryz
set_option linter.unusedSimpArgs false
set_option linter.unusedVariables false
set_option maxRecDepth 100000
set_option maxHeartbeats 8000000
namespace Go.Proofs.Tz
open Go.Vw Go.RowKit Go.Proofs
abbrev a0e (a b : Str) : Int := Go.Lib.compareBytes a b
theorem b1I : ∀ (a b : Str), a0e a b = if a < b then -1 else if b < a then 1 else 0
  | [], [] => by simp [a0e, Go.Lib.compareBytes]
  | [], b :: bs => by simp [a0e, Go.Lib.compareBytes]
  | a :: l, [] => by simp [a0e, Go.Lib.compareBytes]
  | a :: l, b :: bs => by
    have ih := b1I l bs; simp only [a0e, Go.Lib.compareBytes] at ih ⊢; simp only [List.cons_lt_cons_iff]; by_cases h1 : a < b
    · simp [h1]
    · by_cases h2 : b < a
      · have hne : ¬ a = b := by rintro rfl; exact h1 h2
        have hne' : ¬ b = a := fun e => hne e.symm
        simp [h1, h2, hne, hne']
      · have he : a = b := UInt8.le_antisymm (by simpa using h2) (by simpa using h1); subst he; simp [h1, ih]
theorem b2s {a b : Str} : a0e a b = 0 ↔ a = b := by
  rw [b1I]; constructor
  · intro h; by_cases h1 : a < b
    · rw [if_pos h1] at h; simp at h
    · by_cases h2 : b < a
      · rw [if_neg h1, if_pos h2] at h; simp at h
      · rw [List.not_lt] at h1 h2; exact List.le_antisymm h2 h1
  · rintro rfl; rw [if_neg (List.lt_irrefl a), if_neg (List.lt_irrefl a)]
theorem b4C {a b : Str} : a0e a b < 0 ↔ a < b := by
  rw [b1I]; by_cases h1 : a < b
  · simp [h1]
  · by_cases h2 : b < a
    · simp [h1, h2]
    · simp [h1, h2]
set_option maxHeartbeats 1000000 in
theorem b3K (a b : Str) (w : World) : Calls prog 127 #[.string ⟨a.toArray⟩, .string ⟨b.toArray⟩] w fun e w' => e = .returned (.int .i64 (a0e a b)) ∧ w' = w := by
  go_enter func127, Tryz.ntmps127
  go_wp2
  rw [run_callFunc_extern func182 (by kernel_rfl) (by kernel_rfl) (by kernel_rfl) (e := Extern.BytealgCompare.compare) (by kernel_rfl), Lib.run_compareString]; simp only [Result.andThen]; rw [Oper.upon_value]
  go_wp2
  go_ret
  simp [a0e]
theorem b5Q (a b : Str) : Ctr prog 127 [.d (.str a), .d (.str b)] (.d (.int .i64 (a0e a b))) := by
  refine Ctr.same (xs := [.str a, .str b]) (enters_of func127 (by kernel_rfl) rfl) (b3K a b) (fun w L og vals h => ?_) (fun w L => RepV.int); obtain ⟨v, us, rfl, h1, v2, us2, rfl, h2, h3⟩ := h; obtain rfl : us2 = [] := h3; obtain rfl := RepV.str_inv h1; obtain rfl := RepV.str_inv h2; rfl
theorem a6G (a b : Str) : Ctr prog 77 [.d (.str a), .d (.str b)] (.d (.int .i64 (a0e a b))) := by
  refine fv (fun _ => false) func77 (by kernel_rfl) rfl rfl rfl rfl rfl ?_; simp -implicitDefEqProofs; refine A1 (b5Q a b) ?_; simp -implicitDefEqProofs
end Go.Proofs.Tz
namespace Go.Proofs.Tz
open Go.Vw Go.RowKit Go.Proofs Go.Sort
abbrev d2q := {c : Chg // Q7 c}
instance : Inhabited d2q := ⟨⟨I0, ⟨by simp [I0], by simp [I0], by simp [I0], by simp [I0]⟩⟩⟩
end Go.Proofs.Tz
namespace Go.Proofs.Tz
open Go.Vw Go.RowKit Go.Proofs
end Go.Proofs.Tz
namespace Go.Proofs.Tz
open Go.Vw Go.RowKit Go.Proofs Go.Sort
end Go.Proofs.Tz
namespace Go.Proofs.Tz
open Go.Vw Go.RowKit Go.Proofs
def U7 (s : Str) : Str × Bool := match L4 s with
  | some (p :: l) => ((H5 l).1, true)
  | _ => ([], false)
def R6 (a b : Str) : Int := if a < b then -1 else if b < a then 1 else 0
theorem a2Z {a b : Str} : R6 a b = 0 ↔ a = b := by
  unfold R6; constructor
  · intro h; split at h
    · cases h
    · split at h
      · cases h
      · rename_i h1 h2; exact a2O h1 h2
  · rintro rfl; simp [a4I]
theorem a3T {a b : Str} : R6 a b < 0 ↔ a < b := by
  unfold R6; split
  · rename_i h; simp [h]
  · rename_i h
    simp only [h, iff_false]; split <;> omega
theorem b9r (a : Str) : R6 a a = 0 := a2Z.2 rfl
theorem a7N (a b : Str) : R6 b a = - R6 a b := by
  unfold R6; by_cases h1 : a < b
  · have h2 : ¬ b < a := fun h => a4I _ (a1j h1 h)
    simp [h1, h2]
  · by_cases h2 : b < a
    · simp [h1, h2]
    · simp [h1, h2]
def Z4 (p q : F7) : Int := if R6 p.1 q.1 = 0 then R6 p.2 q.2 else R6 p.1 q.1
theorem a4B {p q : F7} : Z4 p q = 0 ↔ p = q := by
  unfold Z4; split
  · rename_i h
    rw [a2Z] at h ⊢; obtain ⟨a, b⟩ := p; obtain ⟨c, d⟩ := q; simp only at h; simp [h]
  · rename_i h
    constructor
    · intro h2; exact absurd h2 h
    · rintro rfl; exact absurd (b9r _) h
theorem b9q (p q : F7) : Z4 q p = - Z4 p q := by
  unfold Z4; rw [a7N p.1 q.1]; by_cases h : R6 p.1 q.1 = 0
  · simp [h, a7N p.2 q.2]
  · have h' : ¬ (- R6 p.1 q.1 = 0) := (by omega); rw [if_neg h, if_neg h']
def ltP (p q : F7) : Prop := p.1 < q.1 ∨ (p.1 = q.1 ∧ p.2 < q.2)
theorem a9O {p q : F7} : Z4 p q < 0 ↔ ltP p q := by
  unfold Z4 ltP; by_cases h : R6 p.1 q.1 = 0
  · rw [if_pos h, a3T]; rw [a2Z] at h; constructor
    · intro h2; exact .inr ⟨h, h2⟩
    · rintro (h2 | h2)
      · rw [h] at h2; exact absurd h2 (a4I _)
      · exact h2.2
  · rw [if_neg h, a3T]; constructor
    · exact .inl
    · rintro (h2 | h2)
      · exact h2
      · exact absurd (a2Z.2 h2.1) h
theorem b9l {p q r : F7} (h1 : ltP p q) (h2 : ltP q r) : ltP p r := by
  rcases h1 with h1 | ⟨e1, h1⟩ <;> rcases h2 with h2 | ⟨e2, h2⟩
  · exact .inl (a1j h1 h2)
  · exact .inl (e2 ▸ h1)
  · exact .inl (e1 ▸ h2)
  · exact .inr ⟨e1.trans e2, a1j h1 h2⟩
def P4 : List F7 → List F7 → Int
  | [], [] => 0
  | [], _ :: _ => -1
  | _ :: _, [] => 1
  | p :: l, q :: m => if Z4 p q = 0 then P4 l m else Z4 p q
theorem b2X : ∀ {l m : List F7}, P4 l m = 0 ↔ l = m
  | [], [] => by simp [P4]
  | [], _ :: _ => by simp [P4]
  | _ :: _, [] => by simp [P4]
  | p :: l, q :: m => by
    simp only [P4]; split
    · rename_i h
      rw [b2X, a4B.1 h]; simp
    · rename_i h
      constructor
      · intro h2; exact absurd h2 h
      · intro e; simp only [List.cons.injEq] at e; exact absurd (a4B.2 e.1) h
theorem b2w : ∀ (l m : List F7), P4 m l = - P4 l m
  | [], [] => by simp [P4]
  | [], _ :: _ => by simp [P4]
  | _ :: _, [] => by simp [P4]
  | p :: l, q :: m => by
    simp only [P4]; rw [b9q p q, b2w l m]; by_cases h : Z4 p q = 0
    · simp [h]
    · have h' : ¬ (- Z4 p q = 0) := (by omega); rw [if_neg h, if_neg h']
theorem b0C : ∀ {l m n : List F7}, P4 l m < 0 → P4 m n < 0 → P4 l n < 0
  | [], [], _, h, _ => by simp [P4] at h
  | [], _ :: _, [], _, h => by simp [P4] at h
  | [], _ :: _, _ :: _, _, _ => by simp [P4]
  | _ :: _, [], _, h, _ => by simp [P4] at h
  | _ :: _, _ :: _, [], _, h => by simp [P4] at h
  | p :: l, q :: m, r :: n, h1, h2 => by
    simp only [P4] at h1 h2 ⊢; by_cases e1 : Z4 p q = 0
    · have e1' := a4B.1 e1; subst e1'; rw [if_pos e1] at h1; by_cases e2 : Z4 p r = 0
      · rw [if_pos e2] at h2 ⊢; exact b0C h1 h2
      · rw [if_neg e2] at h2 ⊢; exact h2
    · rw [if_neg e1] at h1; by_cases e2 : Z4 q r = 0
      · have e2' := a4B.1 e2; subst e2'; rw [if_neg e1]; exact h1
      · rw [if_neg e2] at h2; have h3 := a9O.2 (b9l (a9O.1 h1) (a9O.1 h2)); have : Z4 p r ≠ 0 := (by omega); rw [if_neg this]; exact h3
def a0I (a b : Str) : Int := match L4 a, L4 b with
  | some l, some m => P4 l.reverse m.reverse
  | some _, none => -1
  | none, some _ => 1
  | none, none => R6 a b
theorem a4M {a b : Str} : a0I a b = 0 ↔ a = b := by
  unfold a0I; split
  · rename_i l m h1 h2
    rw [b2X]; constructor
    · intro h; have : l = m := by simpa using congrArg List.reverse h
      subst this; exact b2g h1 h2
    · rintro rfl; rw [h1] at h2; simp only [Option.some.injEq] at h2; rw [h2]
  · rename_i h1 h2
    simp only [Int.reduceNeg, Int.neg_eq_zero, Int.one_ne_zero, false_iff]; rintro rfl; rw [h1] at h2; cases h2
  · rename_i h1 h2
    simp only [Int.one_ne_zero, false_iff]; rintro rfl; rw [h1] at h2; cases h2
  · exact a2Z
theorem b9k (a b : Str) : a0I b a = - a0I a b := by
  unfold a0I; cases L4 a <;> cases L4 b <;> simp only [Int.neg_neg]
  · exact a7N a b
  · exact b2w _ _
theorem b8x {a b c : Str} (h1 : a0I a b < 0) (h2 : a0I b c < 0) : a0I a c < 0 := by
  unfold a0I at *; cases ha : L4 a <;> cases hb : L4 b <;> cases hc : L4 c <;> simp only [ha, hb, hc] at h1 h2 ⊢ <;> try omega
  · exact a3T.2 (a1j (a3T.1 h1) (a3T.1 h2))
  · exact b0C h1 h2
theorem b2p (a : Str) : a0I a a = 0 := a4M.2 rfl
theorem b1Z (x : Str) : Ctr prog 203 [.d (.str x)] (.d (.bool false)) := by
  refine fv (fun _ => false) func203 (by kernel_rfl) rfl rfl rfl rfl rfl ?_; simp -implicitDefEqProofs
theorem b7F (x y : Str) : (x < y ∧ R6 x y = -1 ∧ Op.bytesLess x y = true) ∨ (y < x ∧ R6 x y = 1 ∧ Op.bytesLess x y = false ∧ decide (x = y) = false) ∨ (x = y ∧ R6 x y = 0) := by
  by_cases h1 : x < y
  · exact .inl ⟨h1, by simp [R6, h1], c5k.2 h1⟩
  by_cases h2 : y < x
  · refine .inr (.inl ⟨h2, by simp [R6, h1, h2], b1o.2 h1, ?_⟩); rw [decide_eq_false_iff_not]; rintro rfl; exact h1 h2
  · exact .inr (.inr ⟨a2O h1 h2, by simp [R6, h1, h2]⟩)
theorem a7w (x y : Str) : Ctr prog 164 [.d (.str x), .d (.str y)] (.d (.int .i64 (R6 x y))) := by
  refine fv (fun _ => false) func164 (by kernel_rfl) rfl rfl rfl rfl rfl ?_; have c1 := b1Z x; have c2 := b1Z y; rcases b7F x y with ⟨_, h1, h2⟩ | ⟨_, h1, h2, h3⟩ | ⟨h1, h2⟩
  · rw [h1]; simp -implicitDefEqProofs; refine A1 c1 ?_; simp -implicitDefEqProofs; refine A1 c2 ?_; simp -implicitDefEqProofs [h2]
  · rw [h1]; simp -implicitDefEqProofs; refine A1 c1 ?_; simp -implicitDefEqProofs; refine A1 c2 ?_; simp -implicitDefEqProofs [h2, h3]
  · rw [h2]; subst h1; have h3 : Op.bytesLess x x = false := b1o.2 (a4I x); simp -implicitDefEqProofs; refine A1 c1 ?_; simp -implicitDefEqProofs; refine A1 c2 ?_; simp -implicitDefEqProofs [h3]
theorem b6Y (s : Str) : U7 s = if K3 s = true then (match (E0 s).1 with | _ :: l => ((H5 l).1, true) | [] => ([], false)) else ([], false) := by
  rw [U7, a6i]; by_cases h : K3 s = true
  · rw [if_pos h, if_pos h]; cases (E0 s).1 <;> rfl
  · rw [if_neg h, if_neg h]
theorem a7m.tail {p : F7} {l : List F7} (h : a7m (p :: l)) : a7m l := ⟨by have := h.1; simp at this; omega, fun q hq => h.2 q (by simp [hq])⟩
theorem b8e (s : Str) (hs : List.length s < 900000) : Ctr prog 67 [.d (.str s)] (.tup [.d (.str (U7 s).1), .d (.bool (U7 s).2)]) := by
  refine N1 (rv := .tmp 2) (rs := [.tmp 3]) (r := .d (.str (U7 s).1)) (ys := [.d (.bool (U7 s).2)]) (fun i => false) (by kernel_rfl) func67 (by kernel_rfl) rfl rfl (by simp) (nbl rfl) (by kernel_rfl) rfl rfl ?_; have c1 := a1X s hs; have hf := a0E s; rw [b6Y]; generalize (E0 s).1 = l at *; simp only [J8] at c1; by_cases hv : K3 s = true
  · cases l with
    | nil =>
      simp -implicitDefEqProofs; refine A1 c1 ?_; simp -implicitDefEqProofs [hv]
    | cons p l =>
      rw [if_pos hv]; dsimp only; have c2 := a5Q l hf.tail; have hlen : ¬ ((l.length : Int) + 1 = 0) := (by omega); have htk : List.take l.length (l.map O0) = l.map O0 := ttl (by simp); generalize H5 l = G at *; obtain ⟨t, g⟩ := G; simp only [J8] at c2; simp -implicitDefEqProofs; refine A1 c1 ?_; simp -implicitDefEqProofs [hv, hlen, htk]; refine ⟨⟨rfl, by rintro _ x y _ rfl; rfl⟩, ?_⟩; refine A1 c2 ?_; simp -implicitDefEqProofs
  · simp -implicitDefEqProofs; refine A1 c1 ?_; simp -implicitDefEqProofs [hv]
theorem a8M {l : List F7} {k : Nat} (h : k < l.length) : l.reverse[k]'(by simpa using h) = l[l.length - 1 - k]'(by omega) := by
  rw [List.getElem_reverse]
theorem b8L (l m : List F7) (k : Nat) (hk : k < l.length) (hk' : k < m.length) (hl : l.length < 1000000) (hm : m.length < 1000000) :
    Ctr prog 165 [.d (.int .i64 k), .d (.ref (J8 l)), .d (.ref (J8 m))] (.d (.int .i64 (Z4 (l[l.length - 1 - k]'(by omega)) (m[m.length - 1 - k]'(by omega))))) := by
  refine fv (fun i => i == 9000001) func165 (by kernel_rfl) rfl rfl rfl rfl rfl ?_; have i1 : (0 : Int) ≤ (l.length : Int) - 1 - k := (by omega); have i2 : (0 : Int) ≤ (m.length : Int) - 1 - k := (by omega); have e1 : ((l.length : Int) - 1 - k).toNat = l.length - 1 - k := (by omega); have e2 : ((m.length : Int) - 1 - k).toNat = m.length - 1 - k := (by omega); have b1 : l.length - 1 - k < l.length := (by omega); have b2 : m.length - 1 - k < m.length := (by omega); generalize hx : l[l.length - 1 - k] = x; generalize hy : m[m.length - 1 - k] = y; obtain ⟨x1, x2⟩ := x; obtain ⟨y1, y2⟩ := y; have c1 := a7w x1 y1; have c2 := a7w x2 y2; have c3 := a6a [R6 x1 y1, R6 x2 y2] (by simp); have hor : orI [R6 x1 y1, R6 x2 y2] = Z4 (x1, x2) (y1, y2) := by
    unfold Z4; simp only [orI]; by_cases h : R6 x1 y1 = 0
    · by_cases h' : R6 x2 y2 = 0 <;> simp [h, h']
    · simp [h]
  rw [hor] at c3; simp only [a2h, List.map_cons, List.map_nil] at c3; simp -implicitDefEqProofs [J8, i1, i2, e1, e2, b1, b2, hx, hy, O0]; (repeat refine ai (by omega) ?_); refine D8 c1 ?_; simp -implicitDefEqProofs; refine D8 c2 ?_; simp -implicitDefEqProofs; refine ⟨by decide, D8 c3 ?_⟩; simp -implicitDefEqProofs
theorem b9H {l m : List F7} {k : Nat} (hk : k < l.length) (hk' : k < m.length) : P4 (l.reverse.drop k) (m.reverse.drop k) =
    if Z4 (l[l.length - 1 - k]'(by omega)) (m[m.length - 1 - k]'(by omega)) = 0 then P4 (l.reverse.drop (k + 1)) (m.reverse.drop (k + 1)) else Z4 (l[l.length - 1 - k]'(by omega)) (m[m.length - 1 - k]'(by omega)) := by
  rw [List.drop_eq_getElem_cons (show k < l.reverse.length by simpa using hk), List.drop_eq_getElem_cons (show k < m.reverse.length by simpa using hk'), P4, a8M hk, a8M hk']
theorem c2l {l m : List F7} {k : Nat} (hk : k = min l.length m.length) : P4 (l.reverse.drop k) (m.reverse.drop k) = a0u l.length m.length := by
  rcases Nat.lt_trichotomy l.length m.length with h | h | h
  · have e1 : l.reverse.drop k = [] := List.drop_eq_nil_of_le (by simp; omega); rw [e1, List.drop_eq_getElem_cons (show k < m.reverse.length by simp; omega), P4, a0u, if_pos (by omega)]
  · rw [List.drop_eq_nil_of_le (by simp; omega), List.drop_eq_nil_of_le (by simp; omega), P4, a0u, if_neg (by omega), if_neg (by omega)]
  · have e1 : m.reverse.drop k = [] := List.drop_eq_nil_of_le (by simp; omega); rw [e1, List.drop_eq_getElem_cons (show k < l.reverse.length by simp; omega), P4, a0u, if_neg (by omega), if_pos (by omega)]
theorem c3S (a b : Str) : a0I a b = if K3 a = true then (if K3 b = true then P4 (E0 a).1.reverse (E0 b).1.reverse else -1) else (if K3 b = true then 1 else R6 a b) := by
  rw [a0I, a6i, a6i]; by_cases h1 : K3 a = true <;> by_cases h2 : K3 b = true <;> simp [h1, h2]
def CoI (l m : List F7) (R : Int) (k : Nat) (τ : St) : Prop := τ 9 = .d (.clo 165 [.ref (J8 l), .ref (J8 m)]) ∧ τ 5 = .d (.ref (J8 l)) ∧ τ 7 = .d (.ref (J8 m)) ∧ τ 45 = .d (.int .i64 (min l.length m.length : Nat)) ∧ τ 46 = .d (.int .i64 k) ∧ P4 (l.reverse.drop k) (m.reverse.drop k) = R
theorem c5h (a b : Nat) : (if (b : Int) < a then (b : Int) else a) = ((min a b : Nat) : Int) := by
  split <;> omega
theorem b5F (a b : Str) (ha : List.length a < 900000) (hb : List.length b < 900000) : Ctr prog 119 [.d (.str a), .d (.str b)] (.d (.int .i64 (a0I a b))) := by
  refine fv (fun i => false) func119 (by kernel_rfl) rfl rfl rfl rfl rfl ?_; have c1 := a1X a ha; have c2 := a1X b hb; have c3 := a7w a b; have f1 := (a0E a).1; have f2 := (a0E b).1; rw [c3S]; generalize (E0 a).1 = l at *; generalize (E0 b).1 = m at *; simp only [J8] at c1 c2; by_cases h1 : K3 a = true
  · by_cases h2 : K3 b = true
    · rw [if_pos h1, if_pos h2]; obtain ⟨R, hR⟩ : ∃ R, P4 l.reverse m.reverse = R := ⟨_, rfl⟩; rw [hR]; simp -implicitDefEqProofs; refine A1 c1 ?_; simp -implicitDefEqProofs; refine A1 c2 ?_; simp -implicitDefEqProofs [h1, h2, c5h]; refine H3 (min l.length m.length) (CoI l m R) ⟨by simp [J8], by simp [J8], by simp [J8], by simp; split <;> omega, by simp, by simpa using hR⟩ ?_; rintro k τ hk ⟨g9, g5, g7, g45, g46, hI⟩; by_cases hlt : k < min l.length m.length
      · have hk1 : k < l.length := (by omega); have hk2 : k < m.length := (by omega); have hlt' : (k : Int) < ((min l.length m.length : Nat) : Int) := (by omega); have c4 := b8L l m k hk1 hk2 f1 f2; rw [b9H hk1 hk2] at hI; simp only [J8] at c4; generalize Z4 (l[l.length - 1 - k]'(by omega)) (m[m.length - 1 - k]'(by omega)) = C at *; generalize hmn : min l.length m.length = N at *; by_cases h0 : C = 0
        · rw [if_pos h0] at hI; subst h0; simp -implicitDefEqProofs [g9, g5, g7, g45, g46, hlt']; refine A1 c4 ?_; simp -implicitDefEqProofs [g9, g5, g7, g45, g46, hlt']; (repeat refine ai (by omega) ?_); exact E5 hlt ⟨by simp [g9, J8], by simp [g5, J8], by simp [g7, J8], by simp [g45, hmn], by simp, hI⟩
        · rw [if_neg h0] at hI; rw [hI] at c4 h0; simp -implicitDefEqProofs [g9, g5, g7, g45, g46, hlt']; refine A1 c4 ?_; simp -implicitDefEqProofs [g9, g5, g7, g45, g46, hlt', h0]
      · have hke : k = min l.length m.length := (by omega); have hlt' : ¬ (k : Int) < ((min l.length m.length : Nat) : Int) := (by omega); have c4 := a8l l.length m.length; rw [c2l hke] at hI; rw [hI] at c4; generalize min l.length m.length = N at *; simp -implicitDefEqProofs [g9, g5, g7, g45, g46, hlt', J8]; refine A1 c4 ?_; simp -implicitDefEqProofs [g9, g5, g7, g45, g46]
    · simp -implicitDefEqProofs; refine A1 c1 ?_; simp -implicitDefEqProofs; refine A1 c2 ?_; simp -implicitDefEqProofs [h1, h2]
  · by_cases h2 : K3 b = true
    · simp -implicitDefEqProofs; refine A1 c1 ?_; simp -implicitDefEqProofs; refine A1 c2 ?_; simp -implicitDefEqProofs [h1, h2]
    · simp -implicitDefEqProofs; refine A1 c1 ?_; simp -implicitDefEqProofs; refine A1 c2 ?_; simp -implicitDefEqProofs [h1, h2]; refine A1 c3 ?_; simp -implicitDefEqProofs
abbrev VK := Str × Str
abbrev idC (c : Chg) : Str := c.2.2.1
abbrev opC (c : Chg) : Int := c.2.1
abbrev nmC (c : Chg) : Str := c.2.2.2.1
abbrev W8 (c : Chg) : VK := c.2.2.2.2
structure Abt where
  cr : Bool
  rm : Bool
  nm : Chg
  vs : List (VK × Chg)
def Q3 : Abt := ⟨false, false, I0, []⟩
def ltM (a b : Chg) : Bool := decide (orI [W6 a.1 b.1, a0e (J6 a).1 (J6 b).1] < 0)
def J9 (a b : Chg) : Chg := if opC a = 0 ∨ (opC b ≠ 0 ∧ ltM a b = true) then b else a
def a0a (vs : List (VK × Chg)) (k : VK) : Option Chg := (vs.find? fun p => decide (p.1 = k)).map (·.2)
def S2 (vs : List (VK × Chg)) (k : VK) : Chg := (a0a vs k).getD I0
def a2m (vs : List (VK × Chg)) (k : VK) (c : Chg) : List (VK × Chg) := if vs.any (fun p => decide (p.1 = k)) then vs.map (fun p => if p.1 = k then (p.1, c) else p) else vs ++ [(k, c)]
def N4 (a : Abt) (c : Chg) : Abt :=
  if opC c = 1 then { a with cr := true, nm := J9 a.nm c }
  else if opC c = 3 then { a with nm := J9 a.nm c }
  else if opC c = 2 then { a with rm := true }
  else { a with vs := a2m a.vs (W8 c) (J9 (S2 a.vs (W8 c)) c) }
abbrev a3t := List (Str × Abt)
def X1 (A : a3t) (id : Str) : Option Abt := (A.find? fun p => decide (p.1 = id)).map (·.2)
def a4n (A : a3t) (c : Chg) : a3t := if A.any (fun p => decide (p.1 = idC c)) then A.map (fun p => if p.1 = idC c then (p.1, N4 p.2 c) else p) else A ++ [(idC c, N4 Q3 c)]
def R0 (R : List Chg) : a3t := R.foldl a4n []
theorem a4x (R : List Chg) (c : Chg) : R0 (R ++ [c]) = a4n (R0 R) c := by simp [R0]
theorem b2U {A : a3t} {id : Str} : X1 A id = none ↔ ∀ p ∈ A, p.1 ≠ id := by
  simp [X1, List.find?_eq_none]
theorem c0D {A : a3t} {id : Str} {a : Abt} (hn : (A.map (·.1)).Nodup) : X1 A id = some a ↔ (id, a) ∈ A := by
  induction A with
  | nil => simp [X1]
  | cons p A ih =>
    rw [List.map_cons, List.nodup_cons] at hn; by_cases h : p.1 = id
    · have : X1 (p :: A) id = some p.2 := (by simp [X1, h]); rw [this]; constructor
      · intro e; simp only [Option.some.injEq] at e; subst e; subst h; exact List.mem_cons.2 (.inl rfl)
      · intro e; rcases List.mem_cons.1 e with e | e
        · rw [← e]
        · exact absurd (List.mem_map.2 ⟨_, e, rfl⟩) (by rw [← h]; exact hn.1)
    · have : X1 (p :: A) id = X1 A id := (by simp [X1, h]); rw [this, ih hn.2]; constructor
      · intro e; exact List.mem_cons_of_mem _ e
      · intro e; rcases List.mem_cons.1 e with e | e
        · exact absurd (by rw [← e]) h
        · exact e
theorem b8S (A : a3t) (c : Chg) : (a4n A c).map (·.1) = if A.any (fun p => decide (p.1 = idC c)) then A.map (·.1) else A.map (·.1) ++ [idC c] := by
  unfold a4n; split
  · rw [List.map_map]; refine List.map_congr_left fun p _ => ?_
    simp only [Function.comp_apply]; split <;> rfl
  · simp
theorem b7p {A : a3t} (hn : (A.map (·.1)).Nodup) (c : Chg) : ((a4n A c).map (·.1)).Nodup := by
  rw [b8S]; split
  · exact hn
  · rename_i h
    refine List.nodup_append.2 ⟨hn, by simp, fun x hx z hz => ?_⟩; simp only [List.mem_singleton] at hz; subst hz; rintro rfl; obtain ⟨p, hp, e⟩ := List.mem_map.1 hx; exact h (List.any_eq_true.2 ⟨p, hp, by simpa using e⟩)
theorem a3I (R : List Chg) : ((R0 R).map (·.1)).Nodup := by
  have : ∀ (R : List Chg) (A : a3t), (A.map (·.1)).Nodup → ((R.foldl a4n A).map (·.1)).Nodup := by
    intro R
    induction R with
    | nil => intro A h; exact h
    | cons c R ih => intro A h; exact ih _ (b7p h c)
  exact this R [] (by simp)
def abF (R : List Chg) (id : Str) : Abt := (R.filter fun c => decide (idC c = id)).foldl N4 Q3
theorem Z3 (R : List Chg) (c : Chg) (id : Str) : abF (R ++ [c]) id = if idC c = id then N4 (abF R id) c else abF R id := by
  unfold abF; by_cases h : idC c = id <;> simp [h]
theorem T5 {α : Type} {P : List α → Prop} (h0 : P []) (h1 : ∀ l a, P l → P (l ++ [a])) (l : List α) : P l := by
  have : ∀ l : List α, P l.reverse := fun l => by
    induction l with
    | nil => exact h0
    | cons a l ih => rw [List.reverse_cons]; exact h1 _ _ ih
  simpa using this l.reverse
theorem b4l (k : Str) (f : Abt → Abt) (id : Str) : ∀ A : a3t, X1 (A.map fun p => if p.1 = k then (p.1, f p.2) else p) id = if k = id then (X1 A id).map f else X1 A id
  | [] => by simp [X1]
  | p :: A => by
    have ih := b4l k f id A; unfold X1 at ih ⊢; rw [List.map_cons]; by_cases h1 : p.1 = k <;> by_cases h2 : p.1 = id
    · have : k = id := h1.symm.trans h2; simp [h1, h2, this]
    · have : ¬ k = id := fun e => h2 (h1.trans e)
      rw [if_neg this] at ih ⊢; simp [h1, h2, this]; simpa [h1] using ih
    · have : ¬ k = id := fun e => h1 (h2.trans e.symm)
      rw [if_neg h1, List.find?_cons_of_pos (by simpa using h2), List.find?_cons_of_pos (by simpa using h2), if_neg this]
    · rw [if_neg h1, List.find?_cons_of_neg (by simpa using h2), List.find?_cons_of_neg (by simpa using h2)]; exact ih
theorem c0r {A : a3t} (c : Chg) (id : Str) : X1 (a4n A c) id = if idC c = id then some (N4 ((X1 A id).getD Q3) c) else X1 A id := by
  unfold a4n; by_cases ha : A.any (fun p => decide (p.1 = idC c)) = true
  · rw [if_pos ha, b4l (idC c) (fun a => N4 a c) id A]; by_cases h : idC c = id
    · rw [if_pos h, if_pos h]; obtain ⟨p, hp, e⟩ := List.any_eq_true.1 ha; cases hg : X1 A id with
      | none => exact absurd ((by simpa using e : p.1 = idC c).trans h) (b2U.1 hg p hp)
      | some a => rfl
    · rw [if_neg h, if_neg h]
  · rw [if_neg ha]; have hn : X1 A (idC c) = none := b2U.2 fun p hp e => ha (List.any_eq_true.2 ⟨p, hp, by simpa using e⟩)
    by_cases h : idC c = id
    · rw [if_pos h]; rw [h] at hn; rw [hn]; unfold X1 at hn ⊢; rw [List.find?_append]; cases hf : List.find? (fun p => decide (p.1 = id)) A with
      | some x => rw [hf] at hn; simp at hn
      | none => simp [h]
    · rw [if_neg h]; unfold X1; rw [List.find?_append]; cases hf : List.find? (fun p => decide (p.1 = id)) A with
      | some x => simp
      | none => simp [h]
theorem c1M {R : List Chg} {id : Str} (h : R.any (fun c => decide (idC c = id)) = false) : abF R id = Q3 := by
  have : R.filter (fun c => decide (idC c = id)) = [] := by
    rw [List.filter_eq_nil_iff]; intro c hc; have := List.any_eq_false.1 h c hc; exact this
  simp [abF, this]
theorem c0V (R : List Chg) (id : Str) : X1 (R0 R) id = if R.any (fun c => decide (idC c = id)) then some (abF R id) else none := by
  refine T5 (P := fun R => X1 (R0 R) id = if R.any (fun c => decide (idC c = id)) then some (abF R id) else none) rfl (fun R c ih => ?_) R; rw [a4x, c0r, ih, Z3, List.any_append]; by_cases h : idC c = id
  · rw [if_pos h, if_pos h]; cases ha : R.any (fun c => decide (idC c = id)) with
    | true => simp
    | false => simp [h, c1M ha]
  · simp only [h, if_false, List.any_cons, List.any_nil, decide_false, Bool.or_false]
theorem a6z {R : List Chg} {id : Str} {a : Abt} : (id, a) ∈ R0 R ↔ (∃ c ∈ R, idC c = id) ∧ a = abF R id := by
  rw [← c0D (a3I R), c0V]; by_cases h : R.any (fun c => decide (idC c = id)) = true
  · rw [if_pos h]; have h2 : ∃ c ∈ R, idC c = id := by
      obtain ⟨c, hc, e⟩ := List.any_eq_true.1 h; exact ⟨c, hc, by simpa using e⟩
    simp only [Option.some.injEq, h2, true_and]; exact eq_comm
  · rw [if_neg h]; simp only [reduceCtorEq, false_iff, not_and]; rintro ⟨c, hc, e⟩; exact absurd (List.any_eq_true.2 ⟨c, hc, by simpa using e⟩) h
def vkD (k : VK) : D := .agg [.str k.1, .str k.2]
def O7 (a : Abt) (x : D) : D := .agg [.bool a.cr, .bool a.rm, A8 a.nm, x]
abbrev X4 := Str × Abt × Nat × Nat
def vsM (vs : List (VK × Chg)) : List (D × D) := vs.map fun p => (vkD p.1, A8 p.2)
def Q6 (R : List Chg) : List (D × D) := R.map fun c => (A8 c, D.bool true)
def R4 (L : List X4) : List (D × D) := L.map fun e => (D.str e.1, D.raw (va e.2.2.1))
def a2q (e : X4) : List AV := [.hb (va e.2.2.1) 78 (O7 e.2.1 (.raw (.map (some e.2.2.2)))), .hm (.map (some e.2.2.2)) 101 (vsM e.2.1.vs) none]
def T4 (s r m : Nat) (R : List Chg) (L : List X4) : List AV :=
  [.hb (va s) 65 (.agg [.raw (.map (some r)), .raw (.map (some m))]), .hm (.map (some r)) 35 (Q6 R) none, .hm (.map (some m)) 9 (R4 L) none]
def stH (s r m : Nat) (R : List Chg) (L : List X4) : List AV := T4 s r m R L ++ L.flatMap a2q
def Y7 (L : List X4) : a3t := L.map fun e => (e.1, e.2.1)
def AbD (a : Abt) (d : D) : Prop := ∃ u V bs clk, d = .ref (O7 a (.map u (V.map fun p => vkD p.1) (V.map fun p => A8 p.2) bs clk)) ∧ List.Perm V a.vs
def StD (R : List Chg) (d : D) : Prop := ∃ u1 R1 bs1 c1 u2 bs2 c2, ∃ M : List (Str × Abt × D), d = .ref (.agg [.map u1 (R1.map A8) (R1.map fun _ => .bool true) bs1 c1, .map u2 (M.map fun x => .str x.1) (M.map fun x => x.2.2) bs2 c2]) ∧
  List.Perm R1 R ∧ List.Perm (M.map fun x => (x.1, x.2.1)) (R0 R) ∧ ∀ x ∈ M, AbD x.2.1 x.2.2
theorem a2p {α β : Type} {f : α → β} {m x : List β} (h : List.Perm m x) : ∀ {l : List α}, x = l.map f → ∃ V, List.Perm V l ∧ V.map f = m := by
  induction h with
  | nil => intro l e; cases l <;> simp at e; exact ⟨[], .nil, rfl⟩
  | cons a _ ih =>
    intro l e; cases l with
    | nil => simp at e
    | cons y l =>
      simp only [List.map_cons, List.cons.injEq] at e; obtain ⟨rfl, e⟩ := e; obtain ⟨V, h1, h2⟩ := ih e; exact ⟨y :: V, h1.cons y, by simp [h2]⟩
  | swap a b l2 =>
    intro l e; cases l with
    | nil => simp at e
    | cons y l =>
      cases l with
      | nil => simp at e
      | cons z l =>
        simp only [List.map_cons, List.cons.injEq] at e; obtain ⟨rfl, rfl, rfl⟩ := e; exact ⟨z :: y :: l, List.Perm.swap y z l, by simp⟩
  | trans _ _ ih1 ih2 =>
    intro l e; obtain ⟨V, h1, h2⟩ := ih2 e; obtain ⟨V', h3, h4⟩ := ih1 h2.symm; exact ⟨V', h3.trans h1, h4⟩
theorem a8q {P : Program} {w : World} {L : Nat → Nat → Prop} {hs : List AV} : ∀ ds : List D, LnL P w L hs ds ds
  | [] => .nil
  | d :: ds => .cons (.same d) (a8q ds)
theorem c5c {w : World} {L : Nat → Nat → Prop} {hs : List AV} (hr : ∀ x ∈ hs, RH prog w L x) {e : X4} (he : ∀ x ∈ a2q e, x ∈ hs) : ∃ d, AbD e.2.1 d ∧ Ln prog w L hs (.raw (va e.2.2.1)) d := by
  have h1 := he (.hm (.map (some e.2.2.2)) 101 (vsM e.2.1.vs) none) (by simp [a2q]); have h2 := he (.hb (va e.2.2.1) 78 (O7 e.2.1 (.raw (.map (some e.2.2.2))))) (by simp [a2q]); obtain ⟨g, m', es, clk, k1, k2, k3, k4, k5, k6, _⟩ : a1a prog w L _ 101 (vsM e.2.1.vs) none (.map (some e.2.2.2)) := (hr _ h1).2; simp only [Value.map.injEq, Option.some.injEq] at k2; subst k2; obtain ⟨V, v1, v2⟩ := a2p k5 rfl; refine ⟨_, ⟨.map (some e.2.2.2), V, es.toList.map (·.born), clk, rfl, v1⟩, .box h2 ?_⟩; refine .agg (.cons (.same _) (.cons (.same _) (.cons (.same _) (.cons ?_ .nil)))); have := Ln.map (P := prog) h1 k3 k6 k5 (a8q _); rw [← v2] at this; simpa [Function.comp_def] using this
theorem b6E {w : World} {L : Nat → Nat → Prop} {hs : List AV} (hr : ∀ x ∈ hs, RH prog w L x) : ∀ {E : List X4}, (∀ e ∈ E, ∀ x ∈ a2q e, x ∈ hs) →
    ∃ M : List (Str × Abt × D), (M.map fun x => (x.1, x.2.1)) = Y7 E ∧ (M.map fun x => D.str x.1) = E.map (fun e => D.str e.1) ∧ LnL prog w L hs (E.map fun e => .raw (va e.2.2.1)) (M.map fun x => x.2.2) ∧ ∀ x ∈ M, AbD x.2.1 x.2.2
  | [], _ => ⟨[], rfl, rfl, .nil, by simp⟩
  | e :: E, he => by
    obtain ⟨M, m1, m2, m3, m4⟩ := b6E hr (E := E) (fun e' h' => he e' (by simp [h'])); obtain ⟨d, d1, d2⟩ := c5c hr (he e (by simp)); refine ⟨(e.1, e.2.1, d) :: M, by simp [Y7] at m1 ⊢; exact m1, by simp at m2 ⊢; exact m2, .cons d2 m3, fun x hx => ?_⟩; rcases List.mem_cons.1 hx with rfl | hx
    · exact d1
    · exact m4 x hx
theorem c2b {w : World} {L : Nat → Nat → Prop} {hs : List AV} (hr : ∀ x ∈ hs, RH prog w L x) {s r m : Nat} {R : List Chg} {E : List X4} (hE : Y7 E = R0 R) (hh : ∀ x ∈ stH s r m R E, x ∈ hs) :
    ∃ d, StD R d ∧ Ln prog w L hs (.raw (va s)) d := by
  have h0 := hh (.hb (va s) 65 (.agg [.raw (.map (some r)), .raw (.map (some m))])) (by simp [stH, T4]); have h1 := hh (.hm (.map (some r)) 35 (Q6 R) none) (by simp [stH, T4]); have h2 := hh (.hm (.map (some m)) 9 (R4 E) none) (by simp [stH, T4]); obtain ⟨g, m1, es1, c1, k1, k2, k3, k4, k5, k6, _⟩ : a1a prog w L _ 35 (Q6 R) none (.map (some r)) := (hr _ h1).2; simp only [Value.map.injEq, Option.some.injEq] at k2; subst k2; obtain ⟨g, m2, es2, c2, q1, q2, q3, q4, q5, q6, _⟩ : a1a prog w L _ 9 (R4 E) none (.map (some m)) := (hr _ h2).2; simp only [Value.map.injEq, Option.some.injEq] at q2; subst q2; obtain ⟨R1, r1, r2⟩ := a2p k5 rfl; obtain ⟨E1, e1, e2⟩ := a2p q5 rfl; obtain ⟨M, n1, n2, n3, n4⟩ := b6E hr (E := E1) (fun e he x hx => hh x (by
    simp only [stH, List.mem_append, List.mem_flatMap]; exact .inr ⟨e, e1.mem_iff.1 he, hx⟩))
  refine ⟨_, ⟨.map (some r), R1, es1.toList.map (·.born), c1, .map (some m), es2.toList.map (·.born), c2, M, rfl, r1, ?_, n4⟩, .box h0 (.agg (.cons ?_ (.cons ?_ .nil)))⟩
  · rw [n1, ← hE]; exact e1.map _
  · have := Ln.map (P := prog) h1 k3 k6 k5 (a8q _); rw [← r2] at this; simpa [Function.comp_def] using this
  · have h3 : m2.map (·.2) = E1.map fun e => .raw (va e.2.2.1) := by rw [← e2]; simp [R4, Function.comp_def]
    have := Ln.map (P := prog) h2 q3 q6 q5 (by rw [h3]; exact n3); have h4 : m2.map (·.1) = M.map fun x => D.str x.1 := by rw [n2, ← e2]; simp [R4, Function.comp_def]
    rw [h4] at this; exact this
end Go.Proofs.Tz
namespace Go.Proofs.Tz
open Go.Vw
theorem b6q (H : List AV) : ∀ rs : List Row, (∀ r ∈ rs, hnd r ∈ H) → FzL H (rs.map a1e) ((rs.map nv).map att)
  | [], _ => .nil
  | r :: rs, h => .cons (.agg (.cons (.same _) (.cons (.sl (h r (by simp))) .nil))) (b6q H rs fun x hx => h x (by simp [hx]))
theorem c0i (l : List Att) (hl : a4r l) : Ctr prog 100 [.d (G6 l)] (.own true 72 ((F5 l).map att)) := by
  refine (b7R l hl).frozen (by simp) ?_; rintro r hs ⟨rs, rfl, rfl, hp, ha⟩; refine ⟨_, rfl, ?_⟩; have := b2I l (rs.map nv) hp (fun i j hij hj => by
    have := ha i j hij (by simpa using hj); simpa [nv] using this)
  rw [← this]; exact b6q _ rs fun r hr => List.mem_map.2 ⟨r, hr, rfl⟩
theorem b8H (a b : List Att) (ha : a4r a) (hb : a4r b) (ha' : b4e (F5 a)) (hb' : b4e (F5 b)) : Ctr prog 26 [.d (G6 a), .d (G6 b)] (.d (.bool (decide (F5 a = F5 b)))) := by
  refine fv (fun _ => false) func26 (by kernel_rfl) rfl rfl rfl rfl rfl ?_; simp -implicitDefEqProofs; refine A1 (a5v a ha) ?_; simp -implicitDefEqProofs; refine A1 (a5v b hb) ?_; simp -implicitDefEqProofs; refine A1 (c1s _ _ ha' hb') ?_; simp -implicitDefEqProofs
theorem b9Y (g : FuncId) (cs : List D) (hcs : (cs.all fun c => !c.isAgg) = true) (p : Str → Bool) (l : List Str) (hl : l.length < 1000000) (hp : ∀ a ∈ l, Ctr prog g ([.d (.str a)] ++ cs.map .d) (.d (.bool (p a)))) :
    Ctr prog 115 [.d (B9 l), .d (.clo g cs)] (.d (.int .i64 (a2g p 0 l))) := by
  refine fv (fun _ => false) func115 (by kernel_rfl) rfl rfl rfl rfl rfl ?_; simp -implicitDefEqProofs [B9]; refine H3 l.length (fun k τ => τ 0 = .d (B9 l) ∧ τ 1 = .d (.clo g cs) ∧ τ 7 = .d (.int .i64 l.length) ∧ τ 8 = .d (.int .i64 k) ∧ a2g p 0 l = a2g p k (l.drop k)) (by simp [B9]) ?_; rintro k τ hk ⟨h0, h1, h7, h8, hi⟩; by_cases hlt : k < l.length
  · rw [b9d hlt] at hi; have hf := hp _ (gmm hlt); simp only [List.cons_append, List.nil_append] at hf; simp -implicitDefEqProofs [h0, h1, h7, h8, B9, hlt]; refine ⟨by simpa using hcs, A1 hf ?_⟩; by_cases he : p l[k] = true
    · simp -implicitDefEqProofs [h0, h1, h7, h8, B9, hlt, he]; rw [hi, if_pos he]
    · simp -implicitDefEqProofs [h0, h1, h7, h8, B9, hlt, he]; refine ⟨by omega, E5 hlt ⟨by simp [h0, B9], by simp [h1], by simp [h7], by simp, ?_⟩⟩; rw [hi, if_neg he]
  · simp -implicitDefEqProofs [h0, h1, h7, h8, B9, hlt]; rw [hi, List.drop_eq_nil_of_le (by omega)]; simp -implicitDefEqProofs [a2g]
theorem b3M {α : Type} (p : α → Bool) : ∀ (l : List α) (k : Nat), a2g p k l = -1 → l.filter (fun x => !p x) = l
  | [], k, _ => rfl
  | x :: l, k, h => by
    rw [a2g] at h; by_cases hx : p x = true
    · rw [if_pos hx] at h; omega
    · rw [if_neg hx] at h; simp -implicitDefEqProofs [hx, b3M p l (k + 1) h]
theorem b4Y {α : Type} (p : α → Bool) : ∀ (l : List α) (k : Nat), a2g p k l ≠ -1 → ∃ i : Nat, a2g p k l = ((k + i : Nat) : Int) ∧ i < l.length ∧ (l.take i).filter (fun x => !p x) = l.take i ∧ (l.take (i + 1)).filter (fun x => !p x) = l.take i
  | [], k, h => absurd rfl h
  | x :: l, k, h => by
    rw [a2g] at h ⊢; by_cases hx : p x = true
    · rw [if_pos hx]; exact ⟨0, by simp, by simp, by simp, by simp [hx]⟩
    · rw [if_neg hx] at h ⊢; obtain ⟨i, h1, h2, h3, h4⟩ := b4Y p l (k + 1) h; refine ⟨i + 1, by rw [h1]; omega, by simpa using h2, ?_, ?_⟩
      · simp -implicitDefEqProofs [hx, h3]
      · rw [List.take_succ_cons, List.filter_cons, if_pos (by simp [hx]), h4, List.take_succ_cons]
end Go.Proofs.Tz
namespace Go.Proofs.Tz
open Go.Vw Go.Lib
theorem b5J (l : List Att) : (F5 l).Perm (((grp l).filter a3q).map a1H) := by
  have hp : ((((grp l).filter a3q).map a1H).mergeSort fun a b => decide (a.1 ≤ b.1)).Perm (((grp l).filter a3q).map a1H) := List.mergeSort_perm _ _; have hs := List.pairwise_mergeSort (le := fun a b : Att => decide (a.1 ≤ b.1)) (fun a b c h1 h2 => by
    simp only [decide_eq_true_eq] at *; exact List.le_trans h1 h2) (fun a b => by
    simp only [Bool.or_eq_true, decide_eq_true_eq]; exact List.le_total a.1 b.1) (((grp l).filter a3q).map a1H)
  rw [← b2I l _ hp (fun i j hij hj => by
    have := List.pairwise_iff_getElem.1 hs i j (by omega) hj hij; rw [b1o]; simpa using this)]
  exact hp
theorem b5E (l : List Str) : (compact l).length ≤ l.length := by
  have key : ∀ m, (compactUpTo l.toArray m).length ≤ m := by
    intro m
    induction m with
    | zero => simp [compactUpTo]
    | succ m ih =>
      rw [compactUpTo_succ]; split <;> simp <;> omega
  exact key l.length
theorem b8z {a b : List Att} (h : a.Perm b) : H1 a = H1 b := (h.map _).sum_nat
theorem b7g (l : List Att) : H1 ((l.filter a3q).map a1H) ≤ H1 l := by
  induction l with
  | nil => simp [H1]
  | cons a l ih =>
    have hc := b5E (I3 a.2); have hs : (I3 a.2).length = a.2.length := (by simp [I3]); rw [List.filter_cons]; split
    · simp only [List.map_cons, H1, List.sum_cons] at ih ⊢; simp only [a1H]; omega
    · simp only [H1, List.map_cons, List.sum_cons] at ih ⊢; omega
theorem a7L (l : List Att) : H1 (F5 l) ≤ H1 l := by
  rw [b8z (b5J l), ← a7g l]; exact b7g _
theorem a8L {l : List Att} {x : Att} (h : x ∈ F5 l) : ∃ a ∈ l, a.2 ≠ [] ∧ C8 a.1 = x.1 := by
  obtain ⟨n, hn, rfl⟩ := List.mem_map.1 h; have hN := (a0D l [] (by simp [SS])).2 n; rw [show l.foldl X0 [] = V5 l from rfl] at hN; rcases hN.1 hn with h | h
  · simp at h
  · exact h
theorem b6O {l : List Att} {x : Att} (h : x ∈ F5 l) {v : Str} (hv : v ∈ x.2) : ∃ a ∈ l, C8 a.1 = x.1 ∧ v ∈ a.2 := by
  obtain ⟨n, hn, rfl⟩ := List.mem_map.1 h; have hV := (a0r n l [] (by simp [SS])).2 v; rw [show l.foldl (a0w n) [] = Z1 l n from rfl] at hV; rcases hV.1 hv with h | h
  · simp at h
  · exact h
theorem b5u {l : List Att} (hl : a4r l) : a4r (F5 l) := by
  refine ⟨⟨Nat.lt_of_le_of_lt (a9X l) hl.1.1, fun x hx => ⟨?_, ?_⟩⟩, Nat.lt_of_le_of_lt (a7L l) hl.2⟩
  · obtain ⟨a, ha, _, e⟩ := a8L hx; rw [← e, S1]; exact (hl.1.2 a ha).1
  · have h1 := a6M hx; have h2 := a7L l; have h3 := hl.2; omega
def a9x (l : List Att) (n v : Str) : Prop := ∃ a ∈ l, C8 a.1 = n ∧ v ∈ a.2
structure NF (s : List Att) : Prop where
  names : SS (s.map (·.1))
  vals : ∀ x ∈ s, SS x.2
  ne : ∀ x ∈ s, x.2 ≠ []
theorem c0n (c : UInt8) : a0P (a0P c) = a0P c := by
  unfold a0P; by_cases h : 65 ≤ (c.toNat : Int) ∧ (c.toNat : Int) ≤ 90
  · rw [if_pos h, if_neg]; rw [UInt8.toNat_add]; have : (32 : UInt8).toNat = 32 := rfl; omega
  · rw [if_neg h, if_neg h]
theorem b5z (s : Str) : C8 (C8 s) = C8 s := by simp [C8, c0n]
theorem a7W (l : List Att) : NF (F5 l) := by
  have hN := a0D l [] (by simp [SS]); refine ⟨?_, fun x hx => ?_, fun x hx => ?_⟩
  · rw [F5, List.map_map]; rw [show ((fun x : Att => x.1) ∘ fun n => (n, Z1 l n)) = id from rfl, List.map_id]; exact hN.1
  · obtain ⟨n, _, rfl⟩ := List.mem_map.1 hx; exact (a0r n l [] (by simp [SS])).1
  · obtain ⟨n, hn, rfl⟩ := List.mem_map.1 hx; have hV := (a0r n l [] (by simp [SS])).2; rcases (hN.2 n).1 hn with h | ⟨a, ha, hne, e⟩
    · simp at h
    · obtain ⟨v, hv⟩ := List.exists_mem_of_ne_nil _ hne; exact List.ne_nil_of_mem ((hV v).2 (.inr ⟨a, ha, e, hv⟩))
theorem a3C (l : List Att) (n v : Str) : Has (F5 l) n v ↔ a9x l n v := by
  have hN := a0D l [] (by simp [SS]); constructor
  · rintro ⟨x, hx, rfl, hv⟩; obtain ⟨a, ha, e, h⟩ := b6O hx hv; exact ⟨a, ha, e, h⟩
  · rintro ⟨a, ha, e, hv⟩; refine ⟨(n, Z1 l n), List.mem_map.2 ⟨n, ?_, rfl⟩, rfl, ?_⟩
    · exact (hN.2 n).2 (.inr ⟨a, ha, List.ne_nil_of_mem hv, e⟩)
    · exact ((a0r n l [] (by simp [SS])).2 v).2 (.inr ⟨a, ha, e, hv⟩)
theorem a7S {α : Type} {l : List α} (h : l.Nodup) {i j : Nat} (hi : i < l.length) (hj : j < l.length) (e : l[i] = l[j]) : i = j := by
  have h1 := List.pairwise_iff_getElem.1 h; rcases Nat.lt_trichotomy i j with h2 | h2 | h2
  · exact absurd e (h1 i j hi hj h2)
  · exact h2
  · exact absurd e.symm (h1 j i hj hi h2)
theorem b3X {s : List Att} (hs : NF s) {x y : Att} (hx : x ∈ s) (hy : y ∈ s) (h : x.1 = y.1) : x = y := by
  have hnd := hs.names.nodup; obtain ⟨i, hi, rfl⟩ := List.mem_iff_getElem.1 hx; obtain ⟨j, hj, rfl⟩ := List.mem_iff_getElem.1 hy; have := a7S hnd (i := i) (j := j) (by simpa using hi) (by simpa using hj) (by simpa using h); subst this; rfl
theorem c5U {s t : List Att} (hs : NF s) (ht : NF t) (h : ∀ n v, Has s n v ↔ Has t n v) : s = t := by
  have e1 : s.map (·.1) = t.map (·.1) := by
    refine a7r hs.names ht.names fun n => ?_
    constructor
    · intro hn; obtain ⟨x, hx, rfl⟩ := List.mem_map.1 hn; obtain ⟨v, hv⟩ := List.exists_mem_of_ne_nil _ (hs.ne x hx); obtain ⟨y, hy, e, _⟩ := (h x.1 v).1 ⟨x, hx, rfl, hv⟩; exact List.mem_map.2 ⟨y, hy, e⟩
    · intro hn; obtain ⟨x, hx, rfl⟩ := List.mem_map.1 hn; obtain ⟨v, hv⟩ := List.exists_mem_of_ne_nil _ (ht.ne x hx); obtain ⟨y, hy, e, _⟩ := (h x.1 v).2 ⟨x, hx, rfl, hv⟩; exact List.mem_map.2 ⟨y, hy, e⟩
  have hl : s.length = t.length := by simpa using congrArg List.length e1
  refine List.ext_getElem hl fun i h1 h2 => ?_
  have en : s[i].1 = t[i].1 := by
    have := List.getElem_of_eq e1 (i := i) (by simpa using h1); simpa using this
  refine Prod.ext en ?_; refine a7r (hs.vals _ (gmm h1)) (ht.vals _ (gmm h2)) fun v => ?_
  constructor
  · intro hv; obtain ⟨y, hy, e, hv⟩ := (h s[i].1 v).1 ⟨_, gmm h1, rfl, hv⟩; rw [← b3X ht hy (gmm h2) (e.trans en)]; exact hv
  · intro hv; obtain ⟨y, hy, e, hv⟩ := (h t[i].1 v).2 ⟨_, gmm h2, rfl, hv⟩; rw [← b3X hs hy (gmm h1) (e.trans en.symm)]; exact hv
theorem b0W {a b : List Att} (h : ∀ n v, a9x a n v ↔ a9x b n v) : F5 a = F5 b :=
  c5U (a7W a) (a7W b) fun n v => by rw [a3C, a3C, h]
theorem b0Z {l : List Att} {x : Att} (h : x ∈ F5 l) : C8 x.1 = x.1 := by
  obtain ⟨a, _, _, e⟩ := a8L h; rw [← e, b5z]
theorem a8Z (l : List Att) (n v : Str) : a9x (F5 l) n v ↔ a9x l n v := by
  rw [← a3C l n v]; constructor
  · rintro ⟨x, hx, e, hv⟩; exact ⟨x, hx, (b0Z hx).symm.trans e, hv⟩
  · rintro ⟨x, hx, e, hv⟩; exact ⟨x, hx, (b0Z hx).trans e, hv⟩
theorem b5v (l : List Att) : F5 (F5 l) = F5 l := b0W (a8Z l)
theorem b8T {s : List Att} (hs : NF s) (n v : Str) : v ∈ a0J n s ↔ Has s n v := by
  have key : ∀ (s : List Att), (∀ x ∈ s, ∀ y ∈ s, x.1 = y.1 → x = y) → (v ∈ a0J n s ↔ Has s n v) := by
    intro s
    induction s with
    | nil => intro _; simp [a0J, Has]
    | cons a s ih =>
      intro hi; rw [a0J]; split
      · rename_i h
        constructor
        · intro hv; exact ⟨a, by simp, h, hv⟩
        · rintro ⟨y, hy, e, hv⟩; rw [hi a (by simp) y hy (h.trans e.symm)]; exact hv
      · rename_i h
        rw [ih fun x hx y hy => hi x (by simp [hx]) y (by simp [hy])]; constructor
        · rintro ⟨y, hy, e, hv⟩; exact ⟨y, by simp [hy], e, hv⟩
        · rintro ⟨y, hy, e, hv⟩; rcases List.mem_cons.1 hy with rfl | hy
          · exact absurd e h
          · exact ⟨y, hy, e, hv⟩
  exact key s fun x hx y hy => b3X hs hx hy
theorem c1b (l : List Att) (name v : Str) : v ∈ a4V l name ↔ a9x l (C8 name) v := by
  rw [a4V, b8T (a7W l), a3C]
end Go.Proofs.Tz
namespace Go.Proofs.Tz
open Go.Vw Go.RowKit Go.Proofs Go.Sort
structure a1b (K ss : List Str) (seen : List D) : Prop where
  eq : seen = ss.map .str
  nd : ss.Nodup
  sub : ∀ s ∈ ss, s ∈ K
theorem a1b.nil (K : List Str) : a1b K [] [] := ⟨rfl, List.nodup_nil, by simp⟩
theorem a1b.mem {K ss : List Str} {seen : List D} (h : a1b K ss seen) {s : Str} : D.str s ∈ seen ↔ s ∈ ss := by
  rw [h.eq]; simp
theorem a1b.next {K ss : List Str} {seen : List D} (h : a1b K ss seen) {s : Str} (hs : s ∈ K) (hn : D.str s ∉ seen) : a1b K (ss ++ [s]) (seen ++ [.str s]) := by
  rw [h.mem] at hn; refine ⟨by rw [h.eq]; simp, ?_, ?_⟩
  · rw [List.nodup_append]; refine ⟨h.nd, by simp, ?_⟩; intro a ha b hb; simp only [List.mem_singleton] at hb; subst hb; rintro rfl; exact hn ha
  · intro x hx; rcases List.mem_append.1 hx with hx | hx
    · exact h.sub x hx
    · simp only [List.mem_singleton] at hx; subst hx; exact hs
theorem a1b.le {K ss : List Str} {seen : List D} (h : a1b K ss seen) (hK : K.Nodup) : ss.length ≤ K.length := by
  have hp : ss.Perm (K.filter fun s => decide (s ∈ ss)) := (List.perm_ext_iff_of_nodup h.nd (hK.filter _)).2 fun s => by
    simp only [List.mem_filter, decide_eq_true_eq]; exact ⟨fun hs => ⟨h.sub s hs, hs⟩, fun hs => hs.2⟩
  rw [hp.length_eq]; exact List.length_filter_le _ _
theorem a1b.lt {K ss : List Str} {seen : List D} (h : a1b K ss seen) (hK : K.Nodup) {s : Str} (hs : s ∈ K) (hn : D.str s ∉ seen) : ss.length < K.length := by
  have := (h.next hs hn).le hK; simp only [List.length_append, List.length_singleton] at this; omega
theorem a1b.all {K ss : List Str} {seen : List D} (h : a1b K ss seen) (hK : K.Nodup) (ha : ∀ s ∈ K, D.str s ∈ seen) : ss.Perm K :=
  (List.perm_ext_iff_of_nodup h.nd hK).2 fun s => ⟨h.sub s, fun hs => h.mem.1 (ha s hs)⟩
theorem b5W {α : Type} (f : α → Bool) (l : List α) (x : α) : (l ++ [x]).filter f = l.filter f ++ (if f x = true then [x] else []) := by
  rw [List.filter_append]; by_cases h : f x = true <;> simp [h]
abbrev a0b := Str × Abt × D
def T8 (u1 : Value) (R1 : List Chg) (bs1 : List Nat) (c1 : Nat) (u2 : Value) (M : List a0b) (bs2 : List Nat) (c2 : Nat) : D :=
  .ref (.agg [.map u1 (R1.map A8) (R1.map fun _ => .bool true) bs1 c1, .map u2 (M.map fun x => .str x.1) (M.map fun x => x.2.2) bs2 c2])
structure MR (R : List Chg) (M : List a0b) : Prop where
  perm : List.Perm (M.map fun x => (x.1, x.2.1)) (R0 R)
  ab : ∀ x ∈ M, AbD x.2.1 x.2.2
theorem StD.open {R : List Chg} {d : D} (h : StD R d) : ∃ u1 R1 bs1 c1 u2 M bs2 c2, d = T8 u1 R1 bs1 c1 u2 M bs2 c2 ∧ List.Perm R1 R ∧ MR R M := by
  obtain ⟨u1, R1, bs1, c1, u2, bs2, c2, M, h1, h2, h3, h4⟩ := h; exact ⟨u1, R1, bs1, c1, u2, M, bs2, c2, h1, h2, h3, h4⟩
theorem MR.keys {R : List Chg} {M : List a0b} (h : MR R M) : List.Perm (M.map (·.1)) ((R0 R).map (·.1)) := by
  have := h.perm.map (·.1); simpa [Function.comp_def] using this
theorem MR.nodup {R : List Chg} {M : List a0b} (h : MR R M) : (M.map (·.1)).Nodup := h.keys.nodup_iff.2 (a3I R)
theorem MR.has {R : List Chg} {M : List a0b} (h : MR R M) {c : Chg} (hc : c ∈ R) : ∃ d, (idC c, abF R (idC c), d) ∈ M ∧ AbD (abF R (idC c)) d := by
  have : (idC c, abF R (idC c)) ∈ M.map fun x => (x.1, x.2.1) := h.perm.mem_iff.2 (a6z.2 ⟨⟨c, hc, rfl⟩, rfl⟩)
  obtain ⟨x, hx, e⟩ := List.mem_map.1 this; obtain ⟨i, a, d⟩ := x; simp only [Prod.mk.injEq] at e; obtain ⟨rfl, rfl⟩ := e; exact ⟨d, hx, h.ab _ hx⟩
def a6R (M : List a0b) : List (D × D) := M.map fun x => (D.str x.1, x.2.2)
theorem a6j (M : List a0b) : (M.map fun x => D.str x.1).zip (M.map fun x => x.2.2) = a6R M := by
  induction M with
  | nil => rfl
  | cons x M ih => simp only [List.map_cons, List.zip_cons_cons, ih, a6R]
theorem K5 (a b : Str) : G1 (.str a) (.str b) = decide (a = b) := rfl
theorem c0G {M : List a0b} (hn : (M.map (·.1)).Nodup) {id : Str} {a : Abt} {d : D} (h : (id, a, d) ∈ M) : L5 (a6R M) (.str id) = some d := by
  induction M with
  | nil => simp at h
  | cons x M ih =>
    rw [List.map_cons, List.nodup_cons] at hn; rcases List.mem_cons.1 h with rfl | h
    · simp [L5, a6R, K5]
    · have hne : ¬ x.1 = id := fun e => hn.1 (List.mem_map.2 ⟨_, h, e.symm⟩)
      have := ih hn.2 h; simp only [L5, a6R, List.map_cons, List.find?_cons, K5, decide_eq_false hne] at this ⊢; exact this
theorem a2H (u1 : Value) (R1 : List Chg) (bs1 : List Nat) (c1 : Nat) (u2 : Value) (M : List a0b) (bs2 : List Nat) (c2 : Nat) : Ctr prog 39 [.d (T8 u1 R1 bs1 c1 u2 M bs2 c2)] (.d (.bool true)) := by
  refine fv (fun _ => false) func39 (by kernel_rfl) rfl rfl rfl rfl rfl ?_; simp -implicitDefEqProofs [T8]
def a1r (a : Abt) : Bool := a.cr && !a.rm
def a2I (R : List Chg) : List Str := ((R0 R).filter fun p => a1r p.2).map (·.1)
def B4 (R : List Chg) : List Str := I3 (a2I R)
def Y8 (M : List a0b) (s : Str) : Bool := M.any fun x => decide (x.1 = s) && a1r x.2.1
theorem b0n {l m : List Str} (h : l.Perm m) : I3 l = I3 m := by
  unfold I3; refine List.Perm.eq_of_pairwise (le := fun x y => decide (x ≤ y) = true) (fun a b _ _ x y => List.le_antisymm (by simpa using x) (by simpa using y)) ?_ ?_ ((List.mergeSort_perm _ _).trans (h.trans (List.mergeSort_perm _ _).symm))
  · exact List.pairwise_mergeSort (fun a b c h1 h2 => by simp at h1 h2 ⊢; exact List.le_trans h1 h2) (fun a b => by simp; exact List.le_total a b) _
  · exact List.pairwise_mergeSort (fun a b c h1 h2 => by simp at h1 h2 ⊢; exact List.le_trans h1 h2) (fun a b => by simp; exact List.le_total a b) _
theorem b4v {M : List a0b} (hn : (M.map (·.1)).Nodup) {x : a0b} (hx : x ∈ M) : Y8 M x.1 = a1r x.2.1 := by
  unfold Y8; cases h : a1r x.2.1 with
  | true => exact List.any_eq_true.2 ⟨x, hx, by simp [h]⟩
  | false =>
    rw [List.any_eq_false]; intro y hy e; simp only [Bool.and_eq_true, decide_eq_true_eq] at e; have : y = x := by
      obtain ⟨i, hi, e1⟩ := List.getElem_of_mem hy; obtain ⟨j, hj, e2⟩ := List.getElem_of_mem hx; have := a7S hn (i := i) (j := j) (by simpa using hi) (by simpa using hj) (by simp [e1, e2, e.1]); subst this; rw [← e1, ← e2]
    rw [this, h] at e; simp at e
theorem b8P {R : List Chg} {M : List a0b} (h : MR R M) : ((M.map (·.1)).filter (Y8 M)).Perm (a2I R) := by
  have h1 : (M.map (·.1)).filter (Y8 M) = ((M.map fun x => (x.1, x.2.1)).filter fun p => a1r p.2).map (·.1) := by
    have : ∀ N : List a0b, (∀ x ∈ N, x ∈ M) → (N.map (·.1)).filter (Y8 M) = ((N.map fun x => (x.1, x.2.1)).filter fun p => a1r p.2).map (·.1) := by
      intro N
      induction N with
      | nil => intro _; rfl
      | cons x N ih =>
        intro hN; have e := b4v h.nodup (hN x (by simp)); rw [List.map_cons, List.filter_cons, List.map_cons, List.filter_cons, e, ih (fun y hy => hN y (by simp [hy]))]; by_cases hb : a1r x.2.1 = true <;> simp [hb]
    exact this M fun _ h => h
  rw [h1]; exact (h.perm.filter _).map _
theorem c2H {M : List a0b} {k v : D} (h : (k, v) ∈ a6R M) : ∃ x ∈ M, k = .str x.1 ∧ v = x.2.2 := by
  obtain ⟨x, hx, e⟩ := List.mem_map.1 h; simp only [Prod.mk.injEq] at e; exact ⟨x, hx, e.1.symm, e.2.symm⟩
theorem c1i {M : List a0b} {seen : List D} (h : ∀ p ∈ a6R M, p.1 ∈ seen) : ∀ s ∈ M.map (·.1), D.str s ∈ seen := by
  intro s hs; obtain ⟨x, hx, rfl⟩ := List.mem_map.1 hs; exact h (.str x.1, x.2.2) (List.mem_map.2 ⟨x, hx, rfl⟩)
theorem b0B (M : List a0b) : ∀ k ∈ M.map (fun x => D.str x.1), G1 k k = true := by
  intro k hk; obtain ⟨x, _, rfl⟩ := List.mem_map.1 hk; simp [K5]
def LvI (sd : D) (u2 : Value) (M : List a0b) (bs2 : List Nat) (c2 : Nat) (k : Nat) (τ : St) : Prop := ∃ ss seen, a1b (M.map (·.1)) ss seen ∧ ss.length = k ∧ τ 0 = .d sd ∧ τ 3 = .own true 9 ((ss.filter (Y8 M)).map .str) ∧
  τ 12 = .d (.map u2 (M.map fun x => .str x.1) (M.map fun x => x.2.2) bs2 c2) ∧ τ 13 = .mit u2 ((M.map fun x => D.str x.1).zip bs2, c2) seen
theorem a5n (R : List Chg) (d : D) (hd : StD R d) (hl : (R0 R).length < 100000) : Ctr prog 27 [.d d] (.own true 9 ((B4 R).map .str)) := by
  obtain ⟨u1, R1, bs1, c1, u2, M, bs2, c2, rfl, hR1, hM⟩ := hd.open; have hml : M.length < 100000 := by have := hM.perm.length_eq; simp at this; omega
  have hlive : I3 ((M.map (·.1)).filter (Y8 M)) = B4 R := b0n (b8P hM); rw [← hlive]; refine fv (fun i => i == 2 || i == 3 || i == 33 || i == 3000035) func27 (by kernel_rfl) rfl rfl rfl rfl rfl ?_; simp -implicitDefEqProofs; refine A1 (a2H u1 R1 bs1 c1 u2 M bs2 c2) ?_; simp -implicitDefEqProofs [T8]; obtain ⟨sd, hsd⟩ : ∃ sd, T8 u1 R1 bs1 c1 u2 M bs2 c2 = sd := ⟨_, rfl⟩; refine H3 M.length (LvI sd u2 M bs2 c2) ⟨[], [], a1b.nil _, rfl, by simp [← hsd, T8], by simp, by simp, by simp⟩ ?_; rintro k τ hk ⟨ss, seen, hS, hsl, g0, g3, g12, g13⟩; have hfs : ∀ s, (ss ++ [s]).filter (Y8 M) = _ := b5W (Y8 M) ss; have hll : (ss.filter (Y8 M)).length ≤ M.length := by
    have h1 := List.length_filter_le (Y8 M) ss; have h2 := hS.le hM.nodup; simp only [List.length_map] at h2; omega
  simp -implicitDefEqProofs [g0, g3, g12, g13]; refine c5x (vs := M.map fun x => x.2.2) 12 (by simp [g12]) (b0B M) (fun x v hm hn => ?_) (fun hall => ?_)
  · rw [a6j] at hm; obtain ⟨x, hx, rfl, rfl⟩ := c2H hm; have hin : x.1 ∈ M.map (·.1) := List.mem_map.2 ⟨x, hx, rfl⟩; have hS2 := hS.next hin hn; have hlt := hS.lt hM.nodup hin hn; rw [hsl, List.length_map] at hlt; have hlv := b4v hM.nodup hx; have hfx := hfs x.1; rw [hlv] at hfx; obtain ⟨u, V, bs, clk, hd1, hV⟩ := hM.ab x hx; rw [← a6j] at hm; simp -implicitDefEqProofs [g0, g3, g12, g13]; refine c6e (vs := M.map fun x => x.2.2) 12 (by simp [g12]) (b0B M) hm ?_; rw [hd1]; generalize hT2 : (ss ++ [x.1]).filter (Y8 M) = T2 at *; generalize hT : ss.filter (Y8 M) = T at *; have hli : a1r x.2.1 = (x.2.1.cr && !x.2.1.rm) := rfl; cases hcr : x.2.1.cr <;> cases hrm : x.2.1.rm <;> rw [hcr, hrm] at hli <;> simp only [hli] at hfx <;> simp at hfx
    all_goals simp -implicitDefEqProofs [g0, g3, g12, g13, O7, hcr, hrm]
    all_goals first
      | (refine E5 hlt ⟨ss ++ [x.1], seen ++ [.str x.1], hS2, by simp [hsl], by simp [g0], by simp [g3, hT2, hfx], by simp [g12], by simp⟩; done)
      | (repeat refine ai (by omega) ?_
         exact E5 hlt ⟨ss ++ [x.1], seen ++ [.str x.1], hS2, by simp [hsl], by simp [g0], by simp [hT2, hfx], by simp [g12], by simp⟩)
  · rw [a6j] at hall; have hp := (hS.all hM.nodup (c1i hall)).filter (Y8 M); have c1 := b1L (ss.filter (Y8 M)) (by omega); rw [b0n hp] at c1; generalize ss.filter (Y8 M) = T at *; generalize I3 ((M.map (·.1)).filter (Y8 M)) = T2 at *; simp -implicitDefEqProofs [g0, g3, g12, g13]; refine b7E c1 ?_; simp -implicitDefEqProofs [g0, g3, g12, g13]
def H4 (R : List Chg) (id : Str) : Str := nmC (abF R id).nm
abbrev SM := List (Str × Str)
def N6 (m : SM) : List (D × D) := m.map fun p => (D.str p.1, D.str p.2)
def I2 (m : SM) (k : Str) : Option Str := (m.find? fun p => decide (p.1 = k)).map (·.2)
def M8 (R : List Chg) (l : List Str) : SM := l.foldl (fun m id => if (I2 m (H4 R id)).isSome then m else m ++ [(H4 R id, id)]) []
theorem a8g (R : List Chg) (l : List Str) (id : Str) : M8 R (l ++ [id]) = if (I2 (M8 R l) (H4 R id)).isSome then M8 R l else M8 R l ++ [(H4 R id, id)] := by unfold M8; rw [List.foldl_append]; rfl
theorem a3d (m : SM) (k : Str) : L5 (N6 m) (.str k) = (I2 m k).map .str := by
  induction m with
  | nil => rfl
  | cons p m ih =>
    simp only [L5, N6, I2, List.map_cons, List.find?_cons, K5] at ih ⊢; by_cases h : p.1 = k
    · simp [h]
    · simp only [decide_eq_false h]; exact ih
theorem a6H {m : SM} {k v : Str} (h : I2 m k = none) : Q5 (N6 m) (.str k) (.str v) = N6 (m ++ [(k, v)]) := by
  have : (N6 m).any (fun p => G1 p.1 (.str k)) = false := by
    rw [List.any_eq_false]; intro p hp; obtain ⟨q, hq, rfl⟩ := List.mem_map.1 hp; simp only [I2, Option.map_eq_none_iff, List.find?_eq_none] at h; simpa [K5] using h q hq
  unfold Q5; rw [this]; simp [N6]
theorem A4 (c : Csn) : B1 (B5 c) = 3 := rfl
theorem F4 (s : Str) : D5 prog 9 (.str s) = true := rfl
theorem a4E (M : List a0b) : ∀ k ∈ M.map (fun x => D.str x.1), D5 prog 9 k = true := by
  intro k hk; obtain ⟨x, _, rfl⟩ := List.mem_map.1 hk; exact F4 _
theorem a3y : Program.underlying prog 63 = some (.map 9 75) := by kernel_rfl
theorem V9 : Program.underlying prog 80 = some (.map 9 9) := by kernel_rfl
theorem a1T {R : List Chg} {id : Str} : id ∈ B4 R ↔ (∃ c ∈ R, idC c = id) ∧ a1r (abF R id) = true := by
  unfold B4 a2I; rw [b1T, List.mem_map]; constructor
  · rintro ⟨p, hp, rfl⟩; obtain ⟨h1, h2⟩ := List.mem_filter.1 hp; obtain ⟨h3, h4⟩ := a6z.1 h1; exact ⟨h3, by rw [← h4]; exact h2⟩
  · rintro ⟨h1, h2⟩; exact ⟨(id, abF R id), List.mem_filter.2 ⟨a6z.2 ⟨h1, rfl⟩, h2⟩, rfl⟩
theorem a0S (R : List Chg) : (B4 R).length ≤ (R0 R).length := by
  unfold B4 a2I I3; rw [List.length_mergeSort, List.length_map]; exact List.length_filter_le _ _
theorem MR.live {R : List Chg} {M : List a0b} (h : MR R M) {id : Str} (hid : id ∈ B4 R) : ∃ d, L5 (a6R M) (.str id) = some d ∧ AbD (abF R id) d := by
  obtain ⟨⟨c, hc, rfl⟩, _⟩ := a1T.1 hid; obtain ⟨d, h1, h2⟩ := h.has hc; exact ⟨d, c0G h.nodup h1, h2⟩
def OwI (R : List Chg) (sd : D) (g : Nat) (k : Nat) (τ : St) : Prop := τ 0 = .d sd ∧ τ 3 = .d (.raw (.map (some g))) ∧ τ 11 = .own false 9 ((B4 R).map .str) ∧ τ 12 = .d (.int .i64 (B4 R).length) ∧ τ 13 = .d (.int .i64 k) ∧
  τ 1000000 = .hm (.map (some g)) 9 (N6 (M8 R ((B4 R).take k))) none
theorem b2K (R : List Chg) (d : D) (hd : StD R d) (hl : (R0 R).length < 100000) : G7 prog 63 [.d d] [] (fun r hs' => ∃ g, r = .d (.raw (.map (some g))) ∧ hs' = [.hm (.map (some g)) 9 (N6 (M8 R (B4 R))) none]) := by
  obtain ⟨u1, R1, bs1, c1, u2, M, bs2, c2, rfl, hR1, hM⟩ := hd.open; have hll := a0S R; have hlv := a5n R _ hd hl; refine a1t (fun _ => false) (by kernel_rfl) func63 (by kernel_rfl) rfl rfl (nbl rfl) (by kernel_rfl) rfl ?_; simp -implicitDefEqProofs [A6]; refine b0l 9 1000000 (by simp [A6]) (fun g => ?_); simp -implicitDefEqProofs [A6]; refine A1 hlv ?_; simp -implicitDefEqProofs [A6]; obtain ⟨sd, hsd⟩ : ∃ sd, T8 u1 R1 bs1 c1 u2 M bs2 c2 = sd := ⟨_, rfl⟩; refine H3 (B4 R).length (OwI R sd g) ⟨by simp [A6, ← hsd], by simp [A6], by simp [A6], by simp [A6], by simp [A6], by simp [A6, M8, N6]⟩ ?_; rintro k τ hk ⟨g0, g3, g11, g12, g13, gA⟩; by_cases hlt : k < (B4 R).length
  · have hlt' : (k : Int) < (B4 R).length := (by omega); obtain ⟨id, hid⟩ : ∃ id, (B4 R)[k] = id := ⟨_, rfl⟩; have hin : id ∈ B4 R := by rw [← hid]; exact gmm _
    obtain ⟨d, hg1, hab⟩ := hM.live hin; obtain ⟨u, V, bs, clk, hd1, hV⟩ := hab; have htk : (B4 R).take (k + 1) = (B4 R).take k ++ [id] := by rw [G9 hlt, hid]
    have hsn := a8g R ((B4 R).take k) id; rw [← htk] at hsn; have chg_eq : A8 (abF R id).nm = .agg [B5 (abF R id).nm.1, .int .i64 (abF R id).nm.2.1, .str (abF R id).nm.2.2.1, .str (H4 R id), .str (abF R id).nm.2.2.2.2.1, .str (abF R id).nm.2.2.2.2.2] := rfl; have hmg := a3d (M8 R ((B4 R).take k)) (H4 R id); rw [← a6j] at hg1; rw [hd1] at hg1; simp -implicitDefEqProofs [g0, g3, g11, g12, g13, ← hsd, T8, hlt, hlt', hid]; refine Y9 a3y (F4 _) (a4E M) Tryz.zd_75 hg1 ?_; simp -implicitDefEqProofs [g0, g3, g11, g12, g13, O7, chg_eq, A4]; cases hs : I2 (M8 R ((B4 R).take k)) (H4 R id) with
    | some v =>
      rw [hs] at hsn hmg; simp at hsn; refine a0M (m := N6 (M8 R ((B4 R).take k))) (E := none) 1000000 (by omega) V9 (by simp [gA]) (F4 _) Tryz.zd_9 hmg ?_; simp -implicitDefEqProofs [g0, g3, g11, g12, g13, hlt]; (repeat refine ai (by omega) ?_); exact E5 hlt ⟨by simp [g0, ← hsd, T8], by simp [g3], by simp [g11], by simp [g12], by simp, by simp [gA, hsn]⟩
    | none =>
      rw [hs] at hsn hmg; simp at hsn; refine a0M (m := N6 (M8 R ((B4 R).take k))) (E := none) 1000000 (by omega) V9 (by simp [gA]) (F4 _) Tryz.zd_9 hmg ?_; simp -implicitDefEqProofs [g0, g3, g11, g12, g13, hlt]; refine a5D (m := N6 (M8 R ((B4 R).take k))) (E := none) 1000000 V9 (by simp [gA]) (F4 _) _ (List.Perm.refl _) ?_; rw [a6H hs]; simp -implicitDefEqProofs [g0, g3, g11, g12, g13, hlt]; (repeat refine ai (by omega) ?_); exact E5 hlt ⟨by simp [g0, ← hsd, T8], by simp [g3], by simp [g11], by simp [g12], by simp, by simp [hsn]⟩
  · have hlt' : ¬ (k : Int) < (B4 R).length := (by omega); rw [ttl (by omega)] at gA; simp -implicitDefEqProofs [g0, g3, g11, g12, g13, hlt, hlt']; exact ⟨_, [1000000], by simp, by simp [gA, isH], by simp [a1A], g, rfl, by simp [gA]⟩
theorem b4H (a b : Chg) (ha : Q7 a) (hb : Q7 b) : Ctr prog 81 [.d (A8 a), .d (A8 b)] (.d (A8 (J9 a b))) := by
  have c1 := b6K a ha; have c2 := b6K b hb; have c3 := b6x a.1 b.1; have c4 := a6G (J6 a).1 (J6 b).1; have c5 := a6a [W6 a.1 b.1, a0e (J6 a).1 (J6 b).1] (by simp); have hlt : ltM a b = decide (orI [W6 a.1 b.1, a0e (J6 a).1 (J6 b).1] < 0) := rfl; have hla : J9 a b = if opC a = 0 ∨ (opC b ≠ 0 ∧ ltM a b = true) then b else a := rfl
  simp only [a2h, List.map_cons, List.map_nil] at c5; obtain ⟨la, hla1⟩ : ∃ la, (J6 a).1 = la := ⟨_, rfl⟩; obtain ⟨lb, hlb1⟩ : ∃ lb, (J6 b).1 = lb := ⟨_, rfl⟩; obtain ⟨ea, hea⟩ : ∃ ea, (J6 a).2 = ea := ⟨_, rfl⟩; obtain ⟨eb, heb⟩ : ∃ eb, (J6 b).2 = eb := ⟨_, rfl⟩; obtain ⟨o, ho⟩ : ∃ o, orI [W6 a.1 b.1, a0e (J6 a).1 (J6 b).1] = o := ⟨_, rfl⟩; obtain ⟨x1, hx1⟩ : ∃ x, W6 a.1 b.1 = x := ⟨_, rfl⟩; obtain ⟨x2, hx2⟩ : ∃ x, a0e (J6 a).1 (J6 b).1 = x := ⟨_, rfl⟩; rw [ho] at c5 hlt; rw [hx2] at c4 c5; rw [hx1] at c3 c5; rw [hla1] at c1 c4; rw [hlb1] at c2 c4; rw [hea] at c1; rw [heb] at c2; have ea_eq : A8 a = .agg [B5 a.1, .int .i64 (opC a), .str a.2.2.1, .str a.2.2.2.1, .str a.2.2.2.2.1, .str a.2.2.2.2.2] := rfl; have eb_eq : A8 b = .agg [B5 b.1, .int .i64 (opC b), .str b.2.2.1, .str b.2.2.2.1, .str b.2.2.2.2.1, .str b.2.2.2.2.2] := rfl; generalize hR : J9 a b = R at *; refine N1 (rv := .cell 4 35) (rs := []) (r := .d (A8 R)) (ys := []) (fun i => false) (by kernel_rfl) func81 (by kernel_rfl) rfl rfl (by simp) (nbl rfl) (by kernel_rfl) rfl rfl ?_; rw [ea_eq] at c1 ⊢; rw [eb_eq] at c2 ⊢; rcases Classical.em (opC a = 0) with h1 | h1
  · rw [if_pos (.inl h1)] at hla; subst hla; rw [eb_eq]; rw [h1] at c1; simp -implicitDefEqProofs [A4, h1]; refine A1 c1 ?_; simp -implicitDefEqProofs [A4, h1]; refine A1 c2 ?_; simp -implicitDefEqProofs [A4, h1]
  · rcases Classical.em (opC b = 0) with h2 | h2
    · rw [if_neg (by simp [h1, h2])] at hla; subst hla; rw [ea_eq]; rw [h2] at c2; simp -implicitDefEqProofs [A4, h1, h2]; refine A1 c1 ?_; simp -implicitDefEqProofs [A4, h1, h2]; refine A1 c2 ?_; simp -implicitDefEqProofs [A4, h1, h2]
    · rcases Classical.em (o < 0) with h3 | h3
      · rw [if_pos (.inr ⟨h2, by simp [hlt, h3]⟩)] at hla; subst hla; rw [eb_eq]; simp -implicitDefEqProofs [A4, h1, h2]; refine A1 c1 ?_; simp -implicitDefEqProofs [A4, h1, h2]; refine A1 c2 ?_; simp -implicitDefEqProofs [A4, h1, h2]; refine ⟨rfl, rfl, A1 c3 ?_⟩; simp -implicitDefEqProofs [A4, h1, h2]; refine A1 c4 ?_; simp -implicitDefEqProofs [A4, h1, h2]; refine ⟨by decide, A1 c5 ?_⟩; simp -implicitDefEqProofs [A4, h1, h2, h3]
      · rw [if_neg (by simp [h1, hlt, h3])] at hla; subst hla; rw [ea_eq]; simp -implicitDefEqProofs [A4, h1, h2]; refine A1 c1 ?_; simp -implicitDefEqProofs [A4, h1, h2]; refine A1 c2 ?_; simp -implicitDefEqProofs [A4, h1, h2]; refine ⟨rfl, rfl, A1 c3 ?_⟩; simp -implicitDefEqProofs [A4, h1, h2]; refine A1 c4 ?_; simp -implicitDefEqProofs [A4, h1, h2]; refine ⟨by decide, A1 c5 ?_⟩; simp -implicitDefEqProofs [A4, h1, h2, h3]
def abH (b v : Nat) (a : Abt) : List AV := [.hb (va b) 78 (O7 a (.raw (.map (some v)))), .hm (.map (some v)) 101 (vsM a.vs) none]
theorem b2z (k : VK) : D5 prog 101 (.agg [.str k.1, .str k.2]) = true := by simp [D5]
theorem c3b : Program.underlying prog 76 = some (.map 101 35) := by kernel_rfl
structure b4o (a : Abt) : Prop where
  nm : Q7 a.nm
  vs : ∀ k, Q7 (S2 a.vs k)
theorem a7k (a b : VK) : G1 (vkD a) (vkD b) = decide (a = b) := by
  obtain ⟨a1, a2⟩ := a; obtain ⟨b1, b2⟩ := b; simp [vkD, G1, U5, X5]
theorem c2D (vs : List (VK × Chg)) (k : VK) : L5 (vsM vs) (vkD k) = (a0a vs k).map A8 := by
  induction vs with
  | nil => rfl
  | cons p m ih =>
    simp only [L5, vsM, a0a, List.map_cons, List.find?_cons, a7k] at ih ⊢; by_cases h : p.1 = k
    · simp [h]
    · simp only [decide_eq_false h]; exact ih
theorem c2O (vs : List (VK × Chg)) (k : VK) (c : Chg) : Q5 (vsM vs) (vkD k) (A8 c) = vsM (a2m vs k c) := by
  have e : (vsM vs).any (fun p => G1 p.1 (vkD k)) = vs.any fun p => decide (p.1 = k) := by
    simp only [vsM, List.any_map, Function.comp_def, a7k]
  unfold Q5 a2m; rw [e]; split
  · simp only [vsM, List.map_map]; refine List.map_congr_left fun p _ => ?_
    simp only [Function.comp_apply, a7k, decide_eq_true_eq]; split <;> rfl
  · simp [vsM]
theorem b6D (b v : Nat) (a : Abt) (c : Chg) (ha : b4o a) (hc : Q7 c) : G7 prog 40 [.d (.raw (va b)), .d (A8 c)] (abH b v a) (fun r hs' => r = .tup [] ∧ hs' = abH b v (N4 a c)) := by
  have c1 := b4H a.nm c ha.nm hc; have c2 := b4H (S2 a.vs (W8 c)) c (ha.vs _) hc; have hmg := c2D a.vs (W8 c); have hms := c2O a.vs (W8 c) (J9 (S2 a.vs (W8 c)) c); have ec_eq : A8 c = .agg [B5 c.1, .int .i64 (opC c), .str c.2.2.1, .str c.2.2.2.1, .str c.2.2.2.2.1, .str c.2.2.2.2.2] := rfl; have hta : N4 a c = if opC c = 1 then { a with cr := true, nm := J9 a.nm c }
  else if opC c = 3 then { a with nm := J9 a.nm c }
  else if opC c = 2 then { a with rm := true }
  else { a with vs := a2m a.vs (W8 c) (J9 (S2 a.vs (W8 c)) c) } := rfl
  generalize N4 a c = A2 at *; obtain ⟨cr, rm, nm, vs⟩ := a; simp only at c1 c2 hmg hms hta; refine a2N (rs := []) (fun i => false) (by kernel_rfl) func40 (by kernel_rfl) rfl rfl (by simp) (nbl rfl) (by kernel_rfl) rfl ?_; have chg_w : ∀ x : Chg, B1 (A8 x) = 8 := fun _ => rfl
  rcases Classical.em (opC c = 1) with h1 | h1
  · rw [if_pos h1] at hta; subst hta; rw [ec_eq, h1] at c1 ⊢; generalize J9 nm c = N2 at *; simp -implicitDefEqProofs [A6, abH, O7, A4]; refine N9 (e := 78) (ds := [.bool cr, .bool rm, A8 nm, .raw (.map (some v))]) 1000000 (by simp [A6, abH, O7]) (by omega) (by simp) (by kernel_rfl) ?_; simp -implicitDefEqProofs [A6, chg_w, A4]; refine N9 (e := 78) (ds := [.bool true, .bool rm, A8 nm, .raw (.map (some v))]) 1000000 (by simp [A6, abH, O7]) (by omega) (by simp) (by kernel_rfl) ?_; simp -implicitDefEqProofs [A6, chg_w, A4]; refine ⟨rfl, D8 c1 ?_⟩; simp -implicitDefEqProofs [A6, chg_w, A4]; refine N9 (e := 78) (ds := [.bool true, .bool rm, A8 nm, .raw (.map (some v))]) 1000000 (by simp [A6, abH, O7]) (by omega) (by simp) (by kernel_rfl) ?_; simp -implicitDefEqProofs [A6, chg_w, A4]; exact ⟨[], [1000000, 1000001], by simp, by simp [A6, isH], by simp [U8], rfl, by simp [A6]⟩
  · rw [if_neg h1] at hta; rcases Classical.em (opC c = 3) with h3 | h3
    · rw [if_pos h3] at hta; subst hta; rw [ec_eq, h3] at c1 ⊢; generalize J9 nm c = N2 at *; simp -implicitDefEqProofs [A6, abH, O7, A4]; refine N9 (e := 78) (ds := [.bool cr, .bool rm, A8 nm, .raw (.map (some v))]) 1000000 (by simp [A6, abH, O7]) (by omega) (by simp) (by kernel_rfl) ?_; simp -implicitDefEqProofs [A6, chg_w, A4]; refine ⟨rfl, D8 c1 ?_⟩; simp -implicitDefEqProofs [A6, chg_w, A4]; refine N9 (e := 78) (ds := [.bool cr, .bool rm, A8 nm, .raw (.map (some v))]) 1000000 (by simp [A6, abH, O7]) (by omega) (by simp) (by kernel_rfl) ?_; simp -implicitDefEqProofs [A6, chg_w, A4]; exact ⟨[], [1000000, 1000001], by simp, by simp [A6, isH], by simp [U8], rfl, by simp [A6]⟩
    · rw [if_neg h3] at hta; rcases Classical.em (opC c = 2) with h2 | h2
      · rw [if_pos h2] at hta; subst hta; rw [ec_eq, h2] at c1 ⊢; simp -implicitDefEqProofs [A6, abH, O7, A4]; refine N9 (e := 78) (ds := [.bool cr, .bool rm, A8 nm, .raw (.map (some v))]) 1000000 (by simp [A6, abH, O7]) (by omega) (by simp) (by kernel_rfl) ?_; simp -implicitDefEqProofs [A6, chg_w, A4]; exact ⟨[], [1000000, 1000001], by simp, by simp [A6, isH], by simp [U8], rfl, by simp [A6]⟩
      · rw [if_neg h2] at hta; subst hta; have vk_eq : vkD (W8 c) = .agg [.str c.2.2.2.2.1, .str c.2.2.2.2.2] := rfl; have hlk : Z9 false (.agg [.agg [.int .i64 0, .int .i64 0, .int .i64 0], .int .i64 0, .str [], .str [], .str [], .str []]) (Option.map A8 (a0a vs (W8 c))) = .d (A8 (S2 vs (W8 c))) := by
          unfold S2; cases a0a vs (W8 c) <;> rfl
        rw [ec_eq] at c2 ⊢; rw [vk_eq] at hmg; simp -implicitDefEqProofs [A6, abH, O7, A4, h1, h2, h3]; refine N9 (e := 78) (ds := [.bool cr, .bool rm, A8 nm, .raw (.map (some v))]) 1000000 (by simp [A6, abH, O7]) (by omega) (by simp) (by kernel_rfl) ?_; simp -implicitDefEqProofs [A6, chg_w, A4]; refine N9 (e := 78) (ds := [.bool cr, .bool rm, A8 nm, .raw (.map (some v))]) 1000000 (by simp [A6, abH, O7]) (by omega) (by simp) (by kernel_rfl) ?_; simp -implicitDefEqProofs [A6, chg_w, A4]; refine a0M (m := vsM vs) (E := none) 1000001 (by omega) c3b (by simp [A6]) (b2z _) Tryz.zd_35 hmg ?_; rw [hlk]; simp -implicitDefEqProofs [A6, chg_w, A4]; refine D8 c2 ?_; simp -implicitDefEqProofs [A6, chg_w, A4]; refine a5D (m := vsM vs) (E := none) 1000001 c3b (by simp [A6]) (b2z _) _ (List.Perm.refl _) ?_; rw [← vk_eq, hms]; simp -implicitDefEqProofs [A6, chg_w, A4]; exact ⟨[], [1000000, 1000001], by simp, by simp [A6, isH], by simp [U8], rfl, by simp [A6]⟩
theorem b2F (a b : Chg) : G1 (A8 a) (A8 b) = decide (a = b) := by
  obtain ⟨⟨a1, a2, a3⟩, a4, a5, a6, a7, a8⟩ := a; obtain ⟨⟨b1, b2, b3⟩, b4, b5, b6, b7, b8⟩ := b; simp only [A8, B5, G1, U5, X5, Prod.mk.injEq, Bool.decide_and, Bool.and_true]; simp [Bool.and_assoc, a0h, X5]
theorem a7E (R : List Chg) (c : Chg) : L5 (Q6 R) (A8 c) = if c ∈ R then some (.bool true) else none := by
  induction R with
  | nil => rfl
  | cons x R ih =>
    simp only [L5, Q6, List.map_cons, List.find?_cons, b2F] at ih ⊢; by_cases h : x = c
    · simp [h]
    · simp only [decide_eq_false h]; rw [ih]; have : ¬ c = x := fun e => h e.symm
      simp [this]
theorem b2n {R : List Chg} {c : Chg} (h : c ∉ R) : Q5 (Q6 R) (A8 c) (.bool true) = Q6 (R ++ [c]) := by
  unfold Q5; rw [if_neg (by
    simp only [Q6, List.any_map, List.any_eq_true, Function.comp_apply, b2F, decide_eq_true_eq, not_exists, not_and]; rintro x hx rfl; exact h hx)]
  simp [Q6]
theorem a5x (c : Chg) : D5 prog 35 (A8 c) = true := by
  obtain ⟨⟨a1, a2, a3⟩, a4, a5, a6, a7, a8⟩ := c; simp [D5, A8, B5]
theorem a3z : Program.underlying prog 62 = some (.map 35 4) := by kernel_rfl
theorem b1q {E : List X4} {id : Str} (h : ∀ e ∈ E, e.1 ≠ id) : L5 (R4 E) (.str id) = none := by
  induction E with
  | nil => rfl
  | cons x E ih =>
    have := ih fun e he => h e (by simp [he])
    simp only [L5, R4, List.map_cons, List.find?_cons, K5] at this ⊢; simp only [decide_eq_false (h x (by simp))]; exact this
theorem b1B {E : List X4} (hn : (E.map (·.1)).Nodup) {e : X4} (he : e ∈ E) : L5 (R4 E) (.str e.1) = some (.raw (va e.2.2.1)) := by
  induction E with
  | nil => simp at he
  | cons x E ih =>
    rw [List.map_cons, List.nodup_cons] at hn; rcases List.mem_cons.1 he with rfl | he
    · simp [L5, R4, K5]
    · have hne : ¬ x.1 = e.1 := fun q => hn.1 (List.mem_map.2 ⟨_, he, q.symm⟩)
      have := ih hn.2 he; simp only [L5, R4, List.map_cons, List.find?_cons, K5, decide_eq_false hne] at this ⊢; exact this
theorem b2d {E : List X4} {id : Str} {a : Abt} {b v : Nat} (h : ∀ e ∈ E, e.1 ≠ id) : Q5 (R4 E) (.str id) (.raw (va b)) = R4 (E ++ [(id, a, b, v)]) := by
  unfold Q5; rw [if_neg (by
    simp only [R4, List.any_map, List.any_eq_true, Function.comp_apply, K5, decide_eq_true_eq, not_exists, not_and]; exact h)]
  simp [R4]
def R3 (R : List Chg) (c : Chg) : Int := if H7 c ≠ 0 then H7 c else if c ∈ R then 0 else if 4096 ≤ R.length then 3 else 0
def N0 (R : List Chg) (c : Chg) : List Chg := if H7 c = 0 ∧ c ∉ R ∧ R.length < 4096 then R ++ [c] else R
def stD (r m : Nat) : D := .agg [.raw (.map (some r)), .raw (.map (some m))]
theorem a8f (s r m : Nat) : G7 prog 39 [.d (.raw (va s))] [.hb (va s) 65 (stD r m)] (fun x hs' => x = .d (.bool true) ∧ hs' = [.hb (va s) 65 (stD r m)]) := by
  refine a1t (fun _ => false) (by kernel_rfl) func39 (by kernel_rfl) rfl rfl (nbl rfl) (by kernel_rfl) rfl ?_; simp -implicitDefEqProofs [A6, stD]; refine N9 (e := 65) (ds := [.raw (.map (some r)), .raw (.map (some m))]) 1000000 (by simp [A6]) (by omega) (by simp) (by kernel_rfl) ?_; simp -implicitDefEqProofs [A6]; exact ⟨.d (.bool true), [1000000], by simp, by simp [A6, isH], by simp [a1A], by simp, by simp [A6]⟩
theorem c0y (s r m : Nat) (R : List Chg) (E : List X4) (c : Chg) (hc : Q7 c) (h : H7 c ≠ 0 ∨ c ∈ R ∨ 4096 ≤ R.length) :
    G7 prog 13 [.d (.raw (va s)), .d (A8 c)] (T4 s r m R E) (fun x hs' => x = .d (.int .i64 (R3 R c)) ∧ hs' = T4 s r m R E) := by
  have c1 := a8f s r m; have c2 := a5h c hc; have hmg := a7E R c; have ec_eq : A8 c = .agg [B5 c.1, .int .i64 (opC c), .str c.2.2.1, .str c.2.2.2.1, .str c.2.2.2.2.1, .str c.2.2.2.2.2] := rfl; have hkf := a5x c; simp only [stD] at c1; refine a4W (fun i => i == 5000007 || i == 5000056 || i == 21000012 || i == 1000047) (by kernel_rfl) func13 (by kernel_rfl) rfl rfl (nbl rfl) (by kernel_rfl) rfl ?_; rw [ec_eq] at c2 hkf hmg ⊢; have hlr : (Q6 R).length = R.length := (by simp [Q6]); rcases Classical.em (H7 c = 0) with h0 | h0
  · rw [h0] at c2; rcases Classical.em (c ∈ R) with h1 | h1
    · have he : R3 R c = 0 := (by simp [R3, h0, h1]); rw [if_pos h1] at hmg; rw [he]; simp -implicitDefEqProofs [A6, T4, A4]; refine M2 [1000000] 1000000 c1 (by simp [A6, T4]) rfl (by simp) ?_; rintro x hs' ⟨rfl, rfl⟩; simp -implicitDefEqProofs [A6, C9, B8, A4]; refine A1 c2 ?_; simp -implicitDefEqProofs [A6, C9, B8, A4]; refine N9 (e := 65) (ds := [.raw (.map (some r)), .raw (.map (some m))]) 1000000 (by simp [A6]) (by omega) (by simp) (by kernel_rfl) ?_; simp -implicitDefEqProofs [A6, C9, B8, A4]; refine a0M (m := Q6 R) (E := none) 1000001 (by omega) a3z (by simp [A6]) hkf Tryz.zd_4 hmg ?_; simp -implicitDefEqProofs [A6, C9, B8, A4]; exact ⟨.d (.int .i64 (0)), [1000000, 1000001, 1000002], by simp, by simp [A6, isH], by simp [a1A], by simp, by simp [A6]⟩
    · have h2 : 4096 ≤ R.length := by rcases h with h | h | h <;> first | contradiction | exact h
      have he : R3 R c = 3 := (by simp [R3, h0, h1, h2]); rw [if_neg h1] at hmg; rw [he]; simp -implicitDefEqProofs [A6, T4, A4]; refine M2 [1000000] 1000000 c1 (by simp [A6, T4]) rfl (by simp) ?_; rintro x hs' ⟨rfl, rfl⟩; simp -implicitDefEqProofs [A6, C9, B8, A4]; refine A1 c2 ?_; simp -implicitDefEqProofs [A6, C9, B8, A4]; refine N9 (e := 65) (ds := [.raw (.map (some r)), .raw (.map (some m))]) 1000000 (by simp [A6]) (by omega) (by simp) (by kernel_rfl) ?_; simp -implicitDefEqProofs [A6, C9, B8, A4]; refine a0M (m := Q6 R) (E := none) 1000001 (by omega) a3z (by simp [A6]) hkf Tryz.zd_4 hmg ?_; simp -implicitDefEqProofs [A6, C9, B8, A4]; refine N9 (e := 65) (ds := [.raw (.map (some r)), .raw (.map (some m))]) 1000000 (by simp [A6]) (by omega) (by simp) (by kernel_rfl) ?_; simp -implicitDefEqProofs [A6, C9, B8, A4]; refine c2L (m := Q6 R) (E := none) 1000001 (by omega) a3z (by simp [A6]) ?_; have h2' : (4096 : Int) ≤ (Q6 R).length := by rw [hlr]; omega
      simp -implicitDefEqProofs [A6, C9, B8, A4, h2']; exact ⟨.d (.int .i64 (3)), [1000000, 1000001, 1000002], by simp, by simp [A6, isH], by simp [a1A], by simp, by simp [A6]⟩
  · have he : R3 R c = H7 c := (by simp [R3, h0]); rw [he]; simp -implicitDefEqProofs [A6, T4, A4]; refine M2 [1000000] 1000000 c1 (by simp [A6, T4]) rfl (by simp) ?_; rintro x hs' ⟨rfl, rfl⟩; simp -implicitDefEqProofs [A6, C9, B8, A4]; refine A1 c2 ?_; simp -implicitDefEqProofs [A6, C9, B8, A4, h0]; exact ⟨.d (.int .i64 (H7 c)), [1000000, 1000001, 1000002], by simp, by simp [A6, isH], by simp [a1A], by simp, by simp [A6]⟩
theorem b9J (s r m : Nat) (R : List Chg) (E : List X4) (c : Chg) (a : Abt) (b v : Nat) (hn : (E.map (·.1)).Nodup) (hin : (idC c, a, b, v) ∈ E) (ha : b4o a) (hc : Q7 c) (h0 : H7 c = 0) (h1 : c ∉ R) (h2 : R.length < 4096) :
    G7 prog 13 [.d (.raw (va s)), .d (A8 c)] (T4 s r m R E ++ abH b v a) (fun x hs' => x = .d (.int .i64 0) ∧ hs' = T4 s r m (R ++ [c]) E ++ abH b v (N4 a c)) := by
  have c1 := a8f s r m; have c2 := a5h c hc; have c3 := b6D b v a c ha hc; have hmg := a7E R c; have hms := b2n h1; have hge := b1B hn hin; have ec_eq : A8 c = .agg [B5 c.1, .int .i64 (opC c), .str c.2.2.1, .str c.2.2.2.1, .str c.2.2.2.2.1, .str c.2.2.2.2.2] := rfl; have hkf := a5x c; simp only [stD] at c1; rw [if_neg h1] at hmg; rw [h0] at c2; simp only at hge; refine a4W (fun i => i == 5000007 || i == 5000056 || i == 21000012 || i == 1000047) (by kernel_rfl) func13 (by kernel_rfl) rfl rfl (nbl rfl) (by kernel_rfl) rfl ?_; rw [ec_eq] at c2 c3 hkf hmg hms ⊢; have hlr : (Q6 R).length = R.length := (by simp [Q6]); have h2' : ¬ (4096 : Int) ≤ (Q6 R).length := by rw [hlr]; omega
  simp only [abH] at c3 ⊢; generalize N4 a c = A2 at *; simp -implicitDefEqProofs [A6, T4, A4]; refine M2 [1000000] 1000000 c1 (by simp [A6, T4]) rfl (by simp) ?_; rintro x hs' ⟨rfl, rfl⟩; simp -implicitDefEqProofs [A6, C9, B8, A4]; refine A1 c2 ?_; simp -implicitDefEqProofs [A6, C9, B8, A4]; refine N9 (e := 65) (ds := [.raw (.map (some r)), .raw (.map (some m))]) 1000000 (by simp [A6]) (by omega) (by simp) (by kernel_rfl) ?_; simp -implicitDefEqProofs [A6, C9, B8, A4]; refine a0M (m := Q6 R) (E := none) 1000001 (by omega) a3z (by simp [A6]) hkf Tryz.zd_4 hmg ?_; simp -implicitDefEqProofs [A6, C9, B8, A4]; refine N9 (e := 65) (ds := [.raw (.map (some r)), .raw (.map (some m))]) 1000000 (by simp [A6]) (by omega) (by simp) (by kernel_rfl) ?_; simp -implicitDefEqProofs [A6, C9, B8, A4]; refine c2L (m := Q6 R) (E := none) 1000001 (by omega) a3z (by simp [A6]) ?_; simp -implicitDefEqProofs [A6, C9, B8, A4, h2']; refine N9 (e := 65) (ds := [.raw (.map (some r)), .raw (.map (some m))]) 1000000 (by simp [A6]) (by omega) (by simp) (by kernel_rfl) ?_; simp -implicitDefEqProofs [A6, C9, B8, A4]; refine a5D (m := Q6 R) (E := none) 1000001 a3z (by simp [A6]) hkf _ (List.Perm.refl _) ?_; rw [hms]; simp -implicitDefEqProofs [A6, C9, B8, A4]; refine N9 (e := 65) (ds := [.raw (.map (some r)), .raw (.map (some m))]) 1000000 (by simp [A6]) (by omega) (by simp) (by kernel_rfl) ?_; simp -implicitDefEqProofs [A6, C9, B8, A4]; refine a0M (m := R4 E) (E := none) 1000002 (by omega) a3y (by simp [A6]) (F4 _) Tryz.zd_75 hge ?_; simp -implicitDefEqProofs [A6, C9, B8, A4]; refine N9 (e := 65) (ds := [.raw (.map (some r)), .raw (.map (some m))]) 1000000 (by simp [A6]) (by omega) (by simp) (by kernel_rfl) ?_; simp -implicitDefEqProofs [A6, C9, B8, A4]; refine a0M (m := R4 E) (E := none) 1000002 (by omega) a3y (by simp [A6]) (F4 _) Tryz.zd_75 hge ?_; simp -implicitDefEqProofs [A6, C9, B8, A4]; refine M2 [1000003, 1000004] 1000003 c3 (by simp [A6]) rfl (by simp) ?_; rintro x hs' ⟨rfl, rfl⟩; simp -implicitDefEqProofs [A6, C9, B8, A4]; exact ⟨.d (.int .i64 0), [1000000, 1000001, 1000002, 1000003, 1000004], by simp, by simp [A6, isH], by simp [a1A], by simp, by simp [A6]⟩
theorem b8N : b4o Q3 := by
  refine ⟨⟨by simp [Q3, I0], by simp [Q3, I0], by simp [Q3, I0], by simp [Q3, I0]⟩, fun k => ?_⟩; simp [Q3, S2, a0a]; exact ⟨by simp [I0], by simp [I0], by simp [I0], by simp [I0]⟩
theorem b9U (s r m : Nat) (R : List Chg) (E : List X4) (c : Chg) (hnew : ∀ e ∈ E, e.1 ≠ idC c) (hc : Q7 c) (h0 : H7 c = 0) (h1 : c ∉ R) (h2 : R.length < 4096) :
    G7 prog 13 [.d (.raw (va s)), .d (A8 c)] (T4 s r m R E) (fun x hs' => x = .d (.int .i64 0) ∧ ∃ b v, hs' = T4 s r m (R ++ [c]) (E ++ [(idC c, N4 Q3 c, b, v)]) ++ abH b v (N4 Q3 c)) := by
  have c1 := a8f s r m; have c2 := a5h c hc; have c3 : ∀ b v, _ := fun b v => b6D b v Q3 c b8N hc
  have hmg := a7E R c; have hms := b2n h1; have hge := b1q hnew; have hme : ∀ b v, _ := fun b v => b2d (a := N4 Q3 c) (b := b) (v := v) hnew
  have hg2 : ∀ b, L5 (Q5 (R4 E) (.str (idC c)) (.raw (va b))) (.str (idC c)) = some (.raw (va b)) := fun b => by
    rw [b2d (a := N4 Q3 c) (b := b) (v := 0) hnew]; have : ∀ E : List X4, (∀ e ∈ E, e.1 ≠ idC c) → L5 (R4 (E ++ [(idC c, N4 Q3 c, b, 0)])) (.str (idC c)) = some (.raw (va b)) := by
      intro E
      induction E with
      | nil => intro _; simp [L5, R4, K5]
      | cons x E ih =>
        intro h; have := ih fun e he => h e (by simp [he])
        simp only [L5, R4, List.cons_append, List.map_cons, List.find?_cons, K5, decide_eq_false (h x (by simp))] at this ⊢; exact this
    exact this E hnew
  have ec_eq : A8 c = .agg [B5 c.1, .int .i64 (opC c), .str c.2.2.1, .str c.2.2.2.1, .str c.2.2.2.2.1, .str c.2.2.2.2.2] := rfl; have hkf := a5x c; have za_eq : ∀ v, O7 Q3 (.raw (.map (some v))) = .agg [.bool false, .bool false, .agg [.agg [.int .i64 0, .int .i64 0, .int .i64 0], .int .i64 0, .str [], .str [], .str [], .str []], .raw (.map (some v))] := fun _ => rfl
  have zv : Q3.vs = [] := rfl; have zvm : vsM [] = [] := rfl; simp only [stD] at c1; rw [if_neg h1] at hmg; rw [h0] at c2; refine a4W (fun i => i == 5000007 || i == 5000056 || i == 21000012 || i == 1000047) (by kernel_rfl) func13 (by kernel_rfl) rfl rfl (nbl rfl) (by kernel_rfl) rfl ?_; rw [ec_eq] at c2 c3 hkf hmg hms ⊢; have hlr : (Q6 R).length = R.length := (by simp [Q6]); have h2' : ¬ (4096 : Int) ≤ (Q6 R).length := by rw [hlr]; omega
  simp only [abH] at c3 ⊢; simp only [za_eq, zv, zvm] at c3; generalize N4 Q3 c = A2 at *; simp -implicitDefEqProofs [A6, T4, A4]; refine M2 [1000000] 1000000 c1 (by simp [A6, T4]) rfl (by simp) ?_; rintro x hs' ⟨rfl, rfl⟩; simp -implicitDefEqProofs [A6, C9, B8, A4]; refine A1 c2 ?_; simp -implicitDefEqProofs [A6, C9, B8, A4]; refine N9 (e := 65) (ds := [.raw (.map (some r)), .raw (.map (some m))]) 1000000 (by simp [A6]) (by omega) (by simp) (by kernel_rfl) ?_; simp -implicitDefEqProofs [A6, C9, B8, A4]; refine a0M (m := Q6 R) (E := none) 1000001 (by omega) a3z (by simp [A6]) hkf Tryz.zd_4 hmg ?_; simp -implicitDefEqProofs [A6, C9, B8, A4]; refine N9 (e := 65) (ds := [.raw (.map (some r)), .raw (.map (some m))]) 1000000 (by simp [A6]) (by omega) (by simp) (by kernel_rfl) ?_; simp -implicitDefEqProofs [A6, C9, B8, A4]; refine c2L (m := Q6 R) (E := none) 1000001 (by omega) a3z (by simp [A6]) ?_; simp -implicitDefEqProofs [A6, C9, B8, A4, h2']; refine N9 (e := 65) (ds := [.raw (.map (some r)), .raw (.map (some m))]) 1000000 (by simp [A6]) (by omega) (by simp) (by kernel_rfl) ?_; simp -implicitDefEqProofs [A6, C9, B8, A4]; refine a5D (m := Q6 R) (E := none) 1000001 a3z (by simp [A6]) hkf _ (List.Perm.refl _) ?_; rw [hms]; simp -implicitDefEqProofs [A6, C9, B8, A4]; refine N9 (e := 65) (ds := [.raw (.map (some r)), .raw (.map (some m))]) 1000000 (by simp [A6]) (by omega) (by simp) (by kernel_rfl) ?_; simp -implicitDefEqProofs [A6, C9, B8, A4]; refine a0M (m := R4 E) (E := none) 1000002 (by omega) a3y (by simp [A6]) (F4 _) Tryz.zd_75 hge ?_; simp -implicitDefEqProofs [A6, C9, B8, A4]; refine d1Z 9 [0, 1, 2, 3, 4, 5, 6, 7, 8] [39, 40, 41, 42, 43, 44, 45, 46, 47] (by kernel_rfl) (by kernel_rfl) ?_; simp -implicitDefEqProofs [A6, C9, B8, A4]; refine N9 (e := 65) (ds := [.raw (.map (some r)), .raw (.map (some m))]) 1000000 (by simp [A6]) (by omega) (by simp) (by kernel_rfl) ?_; simp -implicitDefEqProofs [A6, C9, B8, A4]; refine c8s 101 1000004 (by omega) (by simp [A6]) (fun v => ?_); simp -implicitDefEqProofs [A6, C9, B8, A4]; refine c7P 1000003 (by omega) (by simp [A6]) (fun b => ?_); simp -implicitDefEqProofs [A6, C9, B8, A4]; refine a5D (m := R4 E) (E := none) 1000002 a3y (by simp [A6]) (F4 _) _ (List.Perm.refl _) ?_; have hme := hme b v; have hg2 := hg2 b; have hvb : va b = .pointer (some ⟨b, 0, none⟩) := rfl; rw [hme] at hg2; rw [← hvb, hme]; simp -implicitDefEqProofs [A6, C9, B8, A4]; refine N9 (e := 65) (ds := [.raw (.map (some r)), .raw (.map (some m))]) 1000000 (by simp [A6]) (by omega) (by simp) (by kernel_rfl) ?_; simp -implicitDefEqProofs [A6, C9, B8, A4]; refine a0M (m := R4 (E ++ [(idC c, A2, b, v)])) (E := none) 1000002 (by omega) a3y (by simp [A6]) (F4 _) Tryz.zd_75 hg2 ?_; simp -implicitDefEqProofs [A6, C9, B8, A4]; refine M2 [1000003, 1000004] 1000003 (c3 b v) (by simp [A6]) rfl (by simp) ?_; rintro x hs' ⟨rfl, rfl⟩; simp -implicitDefEqProofs [A6, C9, B8, A4]; exact ⟨.d (.int .i64 0), [1000000, 1000001, 1000002, 1000003, 1000004], by simp, by simp [A6, isH], by simp [a1A], rfl, b, v, by simp [A6]⟩
theorem b2Y : Q7 I0 := ⟨by simp [I0], by simp [I0], by simp [I0], by simp [I0]⟩
theorem a7f (a b : Chg) : J9 a b = a ∨ J9 a b = b := by
  unfold J9; split
  · exact .inr rfl
  · exact .inl rfl
theorem b1X (vs : List (VK × Chg)) (k k' : VK) (c : Chg) : S2 (a2m vs k c) k' = if k = k' then c else S2 vs k' := by
  unfold S2 a0a a2m; by_cases ha : vs.any (fun p => decide (p.1 = k)) = true
  · rw [if_pos ha]; have key : ∀ vs : List (VK × Chg), ((vs.map fun p => if p.1 = k then (p.1, c) else p).find? fun p => decide (p.1 = k')) = (vs.find? fun p => decide (p.1 = k')).map fun p => if p.1 = k then (p.1, c) else p := by
      intro vs
      induction vs with
      | nil => rfl
      | cons p vs ih =>
        rw [List.map_cons, List.find?_cons, List.find?_cons]; by_cases h : p.1 = k
        · rw [if_pos h]; by_cases h2 : p.1 = k'
          · simp only [decide_eq_true h2, Option.map_some, if_pos h]
          · simp only [decide_eq_false h2]; exact ih
        · rw [if_neg h]; by_cases h2 : p.1 = k'
          · simp only [decide_eq_true h2, Option.map_some, if_neg h]
          · simp only [decide_eq_false h2]; exact ih
    rw [key]; by_cases h : k = k'
    · rw [if_pos h]; obtain ⟨p, hp, e⟩ := List.any_eq_true.1 ha; cases hf : vs.find? fun p => decide (p.1 = k') with
      | none => exact absurd (by rw [← h]; exact e) (List.find?_eq_none.1 hf p hp)
      | some q =>
        have : q.1 = k' := by simpa using List.find?_some hf
        simp [this, h]
    · rw [if_neg h]; cases hf : vs.find? fun p => decide (p.1 = k') with
      | none => rfl
      | some q =>
        have hq : q.1 = k' := by simpa using List.find?_some hf
        have : ¬ q.1 = k := fun e => h (e.symm.trans hq)
        simp [this]
  · rw [if_neg ha, List.find?_append]; by_cases h : k = k'
    · subst h; rw [if_pos rfl]; have : vs.find? (fun p => decide (p.1 = k)) = none := by
        rw [List.find?_eq_none]; intro p hp hq; exact ha (List.any_eq_true.2 ⟨p, hp, hq⟩)
      simp [this]
    · rw [if_neg h]; have : List.find? (fun p : VK × Chg => decide (p.1 = k')) [(k, c)] = none := by simp [h]
      simp [this]
theorem b4x (R : List Chg) (id : Str) : ((abF R id).nm ∈ R ∨ (abF R id).nm = I0) ∧ ∀ k, S2 (abF R id).vs k ∈ R ∨ S2 (abF R id).vs k = I0 := by
  refine T5 (P := fun R => ((abF R id).nm ∈ R ∨ (abF R id).nm = I0) ∧ ∀ k, S2 (abF R id).vs k ∈ R ∨ S2 (abF R id).vs k = I0) ⟨.inr rfl, fun k => .inr rfl⟩ (fun R c ih => ?_) R; have h1 : (abF R id).nm ∈ R ++ [c] ∨ (abF R id).nm = I0 := ih.1.imp (fun h => by simp [h]) (fun h => h); have h2 : ∀ k, S2 (abF R id).vs k ∈ R ++ [c] ∨ S2 (abF R id).vs k = I0 := fun k => (ih.2 k).imp (fun h => by simp [h]) (fun h => h)
  rw [Z3]; split
  · have h3 : J9 (abF R id).nm c ∈ R ++ [c] ∨ J9 (abF R id).nm c = I0 := by
      rcases a7f (abF R id).nm c with e | e
      · rw [e]; exact h1
      · rw [e]; simp
    unfold N4; split
    · exact ⟨h3, h2⟩
    · split
      · exact ⟨h3, h2⟩
      · split
        · exact ⟨h1, h2⟩
        · refine ⟨h1, fun k => ?_⟩; simp only [b1X]; split
          · rcases a7f (S2 (abF R id).vs (W8 c)) c with e | e
            · rw [e]; exact h2 _
            · rw [e]; simp
          · exact h2 k
  · exact ⟨h1, h2⟩
theorem c4e {R : List Chg} (h : ∀ c ∈ R, Q7 c) (id : Str) : b4o (abF R id) := by
  obtain ⟨h1, h2⟩ := b4x R id; refine ⟨h1.elim (h _) fun e => by rw [e]; exact b2Y, fun k => (h2 k).elim (h _) fun e => by rw [e]; exact b2Y⟩
theorem b5Y {E : List X4} {R : List Chg} (hE : Y7 E = R0 R) : E.map (·.1) = (R0 R).map (·.1) := by
  rw [← hE]; simp [Y7, Function.comp_def]
theorem c0W {E1 E2 : List X4} {i : Str} {a a' : Abt} {b v : Nat} : R4 (E1 ++ (i, a', b, v) :: E2) = R4 (E1 ++ (i, a, b, v) :: E2) := by simp [R4]
theorem b1t (i : Str) (a : Abt) (b v : Nat) : a2q (i, a, b, v) = abH b v a := rfl
theorem c2Z (s r m : Nat) (R : List Chg) (E : List X4) (hE : Y7 E = R0 R) (hR : ∀ c ∈ R, Q7 c) (c : Chg) (hc : Q7 c) :
    G7 prog 13 [.d (.raw (va s)), .d (A8 c)] (stH s r m R E) (fun x hs' => x = .d (.int .i64 (R3 R c)) ∧ ∃ E', Y7 E' = R0 (N0 R c) ∧ hs' = stH s r m (N0 R c) E') := by
  have hnd : (E.map (·.1)).Nodup := by rw [b5Y hE]; exact a3I R
  by_cases hrej : H7 c ≠ 0 ∨ c ∈ R ∨ 4096 ≤ R.length
  · have e1 : N0 R c = R := by
      unfold N0; rw [if_neg]; rintro ⟨h1, h2, h3⟩; rcases hrej with h | h | h
      · exact h h1
      · exact h2 h
      · omega
    rw [e1]; refine ((c0y s r m R E c hc hrej).frame (E.flatMap a2q)).post ?_; rintro x hs' ⟨h1, rfl, rfl, rfl⟩; exact ⟨rfl, E, hE, rfl⟩
  · have h0 : H7 c = 0 := by
      refine Classical.byContradiction fun h => hrej (.inl h)
    have h1 : c ∉ R := fun h => hrej (.inr (.inl h))
    have h2 : R.length < 4096 := by
      refine Classical.byContradiction fun h => hrej (.inr (.inr (by omega)))
    have e1 : N0 R c = R ++ [c] := by unfold N0; rw [if_pos ⟨h0, h1, h2⟩]
    have e2 : R3 R c = 0 := by
      unfold R3; rw [if_neg (by simpa using h0), if_neg h1, if_neg (by omega)]
    rw [e1, e2]; by_cases hk : ∃ e ∈ E, e.1 = idC c
    · obtain ⟨⟨i, a, b, v⟩, he, hi⟩ := hk; simp only at hi; subst hi; obtain ⟨E1, E2, rfl⟩ := List.append_of_mem he; have hmem : (idC c, a) ∈ R0 R := by rw [← hE]; exact List.mem_map.2 ⟨_, he, rfl⟩
      have ha : b4o a := by rw [(a6z.1 hmem).2]; exact c4e hR _
      have hc1 := ((b9J s r m R (E1 ++ (idC c, a, b, v) :: E2) c a b v hnd he ha hc h0 h1 h2).frame (E1.flatMap a2q ++ E2.flatMap a2q)).perm (hs2 := stH s r m R (E1 ++ (idC c, a, b, v) :: E2)) (by
        simp only [stH, List.flatMap_append, List.flatMap_cons, List.append_assoc, b1t]; refine List.perm_append_left_iff _ |>.2 ?_
        rw [← List.append_assoc, ← List.append_assoc]; exact List.Perm.append_right _ List.perm_append_comm)
      refine hc1.permOut ?_; rintro x hs' ⟨h1', rfl, rfl, rfl⟩; refine ⟨stH s r m (R ++ [c]) (E1 ++ (idC c, N4 a c, b, v) :: E2), ?_, rfl, E1 ++ (idC c, N4 a c, b, v) :: E2, ?_, rfl⟩
      · simp only [stH, T4, List.flatMap_append, List.flatMap_cons, List.append_assoc, b1t, c0W (a := a) (a' := N4 a c)]; refine List.perm_append_left_iff _ |>.2 ?_
        rw [← List.append_assoc, ← List.append_assoc]; exact List.Perm.append_right _ List.perm_append_comm
      · rw [a4x, ← hE]; have hd1 : ∀ e ∈ E1, ¬ e.1 = idC c := fun e he' q => by
          rw [List.map_append, List.nodup_append] at hnd; exact hnd.2.2 e.1 (List.mem_map.2 ⟨e, he', rfl⟩) (idC c) (by simp) q
        have hd2 : ∀ e ∈ E2, ¬ e.1 = idC c := fun e he' q => by
          rw [List.map_append, List.nodup_append] at hnd; have := hnd.2.1; rw [List.map_cons, List.nodup_cons] at this; exact this.1 (by rw [← q]; exact List.mem_map.2 ⟨e, he', rfl⟩)
        unfold a4n; rw [if_pos (by simp [Y7])]; simp only [Y7, List.map_append, List.map_cons, List.map_map, if_true]; congr 1
        · refine List.map_congr_left fun e he' => ?_
          simp only [Function.comp_apply, if_neg (hd1 e he')]
        · congr 1
          refine List.map_congr_left fun e he' => ?_
          simp only [Function.comp_apply, if_neg (hd2 e he')]
    · have hnew : ∀ e ∈ E, e.1 ≠ idC c := fun e he q => hk ⟨e, he, q⟩
      have hc1 := (b9U s r m R E c hnew hc h0 h1 h2).frame (E.flatMap a2q); refine hc1.permOut ?_; rintro x hs' ⟨h1', rfl, rfl, b, v, rfl⟩; refine ⟨_, ?_, rfl, E ++ [(idC c, N4 Q3 c, b, v)], ?_, rfl⟩
      · simp only [stH, List.flatMap_append, List.flatMap_cons, List.flatMap_nil, List.append_nil, List.append_assoc, b1t]; exact List.perm_append_left_iff _ |>.2 List.perm_append_comm
      · rw [a4x, ← hE]; unfold a4n Y7; rw [if_neg]
        · simp
        · simp only [List.any_map, List.any_eq_true, Function.comp_apply, decide_eq_true_eq, not_exists, not_and]; exact hnew
theorem b8F : G7 prog 11 [] [] (fun x hs' => ∃ s r m, x = .d (.raw (va s)) ∧ hs' = stH s r m [] []) := by
  refine a1t (fun i => i == 1000004) (by kernel_rfl) func11 (by kernel_rfl) rfl rfl (nbl rfl) (by kernel_rfl) rfl ?_; simp -implicitDefEqProofs [A6]; refine b0l 35 1000001 (by simp [A6]) (fun r => ?_); simp -implicitDefEqProofs [A6]; refine b0l 9 1000002 (by simp [A6]) (fun m => ?_); simp -implicitDefEqProofs [A6]; refine ⟨1000000, by simp [A6], fun s => ?_⟩; simp -implicitDefEqProofs [A6]; exact ⟨.d (.raw (va s)), [1000000, 1000001, 1000002], by simp, by simp [A6, isH], by simp [a1A, A6], s, rfl, r, m, by simp [A6, stH, T4, Q6, R4]⟩
@[simp] theorem c5p {P : Program} {F : Nat → Bool} {K : St → Prop} {σ : St} (ds : List Nat) (d : Nat) (args : Array Operand) (ts : Array TypeId) (ty : TypeId) (pos : String) (after : Array Edge) (g : Option (Nat × Bool)) (rest : List Oper) :
    E8 P F ds ({ dst := some d, op := .call { callee := .builtin .min, args, argTypes := ts }, type := ty, pos, after, guard := g } :: rest) K σ = D3 P F (.call { callee := .builtin .min, args, argTypes := ts }) d σ (K6 ds d (E8 P F ds rest K) σ) := rfl
def b4X (v id : Str) : Str := v.take (min v.length (256 - (id.length + 1))) ++ 35 :: id
def b1D (own id : Str) : List F7 := match (E0 own).1 with
  | [] => []
  | p :: l => (p.1, b4X p.2 id) :: l
def a9r (own id : Str) : Str := (H5 (b1D own id)).1
theorem c1j (own id : Str) (ho : List.length own < 900000) (hi : List.length id < 200) (hp : (E0 own).1 ≠ []) : Ctr prog 89 [.d (.str own), .d (.str id)] (.d (.str (a9r own id))) := by
  have c1 := b2j own ho; obtain ⟨p, l, hpl⟩ : ∃ p l, (E0 own).1 = p :: l := by
    cases h : (E0 own).1 with
    | nil => exact absurd h hp
    | cons p l => exact ⟨p, l, rfl⟩
  have hoth : b1D own id = (p.1, b4X p.2 id) :: l := (by simp [b1D, hpl]); have hfit : a7m (b1D own id) := by
    have h1 := a0E own; rw [hpl] at h1; rw [hoth]; refine ⟨by simpa using h1.1, fun q hq => ?_⟩; rcases List.mem_cons.1 hq with rfl | hq
    · have := h1.2 p (by simp); refine ⟨this.1, ?_⟩; simp only [b4X, List.length_append, List.length_take, List.length_cons]; omega
    · exact h1.2 q (by simp [hq])
  have c2 := a5Q _ hfit; rw [hpl] at c1; obtain ⟨e1, he1⟩ : ∃ e1, (E0 own).2 = e1 := ⟨_, rfl⟩; rw [he1] at c1; obtain ⟨S, hS⟩ : ∃ S, H5 (b1D own id) = S := ⟨_, rfl⟩; have hos : a9r own id = S.1 := by rw [← hS]; rfl
  rw [hS] at c2; rw [hos]; rw [hoth] at c2; refine fv (fun i => i == 9000003 || i == 9000004 || i == 41) func89 (by kernel_rfl) rfl rfl rfl rfl rfl ?_; simp -implicitDefEqProofs; refine A1 c1 ?_; simp -implicitDefEqProofs [J8, O0]; refine ⟨by omega, ⟨by omega, by omega⟩, ?_⟩; have hmin : ((if (256 : Int) - ((List.length id : Nat) + 1) < (List.length p.2 : Nat) then (256 : Int) - ((List.length id : Nat) + 1) else (List.length p.2 : Nat)) : Int) = ((min p.2.length (256 - (id.length + 1)) : Nat) : Int) := by
    split <;> omega
  have hcut : b4X p.2 id = p.2.take (min p.2.length (256 - (id.length + 1))) ++ 35 :: id := rfl; have hm0 : min p.2.length (256 - (id.length + 1)) ≤ p.2.length := Nat.min_le_left _ _; generalize min p.2.length (256 - (id.length + 1)) = m at *; simp -implicitDefEqProofs [J8, O0, hmin]; have hl8 : l.length < 1000000 := by have := (hoth ▸ hfit : a7m ((p.1, b4X p.2 id) :: l)).1; simp at this; omega
  refine ⟨hm0, by have := Nat.min_le_left m (List.length p.2); have := a0E own; rw [hpl] at this; have := (this.2 p (by simp)).2; omega, ?_, ?_, by omega, by omega, ?_⟩
  · rintro a x y _ rfl; rfl
  · intro u hu; obtain ⟨q, _, rfl⟩ := List.mem_map.1 (List.mem_of_mem_take hu); rfl
  have htk : (l.map O0).take l.length = l.map O0 := ttl (by simp); rw [htk]; rw [hcut] at c2; refine D8 c2 ?_; simp -implicitDefEqProofs
end Go.Proofs.Tz