/-
  What the functions that the statements about merged states reach compute, part 4 of 6, for data of bounded size (each theorem states its bound).
-/import Derived.Test.YtnknfnfinhagoaaGreatDoorTn
import Derived.Test.YtnknfnfinhagoaaGreatDoorTl
import Derived.Test.YtnknfnfinhagoaaGreatDoorWk
import Derived.Lib.AppendZeros
import Derived.Test.YtnknfnfinhagoaaGreatDoorTm
import Derived.Test.YtnknfnfinhagoaaGreatDoorWl
open Go.Proofs.Tryz
set_option linter.unusedSimpArgs false
set_option linter.unusedVariables false
set_option maxRecDepth 100000
set_option maxHeartbeats 8000000
namespace Go.Proofs.Tz
open Go.Vw Go.RowKit Go.Proofs
abbrev a0B (a b : Str) : Int := Go.Lib.compareBytes a b
theorem b1B : ∀ (a b : Str), a0B a b = if a < b then -1 else if b < a then 1 else 0
  | [], [] => by simp [a0B, Go.Lib.compareBytes]
  | [], b :: bs => by simp [a0B, Go.Lib.compareBytes]
  | a :: l, [] => by simp [a0B, Go.Lib.compareBytes]
  | a :: l, b :: bs => by
    have ih := b1B l bs; simp only [a0B, Go.Lib.compareBytes] at ih ⊢; simp only [List.cons_lt_cons_iff]; by_cases h1 : a < b
    · simp [h1]
    · by_cases h2 : b < a
      · have hne : ¬ a = b := by rintro rfl; exact h1 h2
        have hne' : ¬ b = a := fun e => hne e.symm
        simp [h1, h2, hne, hne']
      · have he : a = b := UInt8.le_antisymm (by simpa using h2) (by simpa using h1); subst he; simp [h1, ih]
theorem b9q {a b : Str} : a0B a b = 0 ↔ a = b := by
  rw [b1B]; constructor
  · intro h; by_cases h1 : a < b
    · rw [if_pos h1] at h; simp at h
    · by_cases h2 : b < a
      · rw [if_neg h1, if_pos h2] at h; simp at h
      · rw [List.not_lt] at h1 h2; exact List.le_antisymm h2 h1
  · rintro rfl; rw [if_neg (List.lt_irrefl a), if_neg (List.lt_irrefl a)]
theorem c2J {a b : Str} : a0B a b < 0 ↔ a < b := by
  rw [b1B]; by_cases h1 : a < b
  · simp [h1]
  · by_cases h2 : b < a
    · simp [h1, h2]
    · simp [h1, h2]
set_option maxHeartbeats 1000000 in
theorem b4Y (a b : Str) (w : World) : Calls prog 127 #[.string ⟨a.toArray⟩, .string ⟨b.toArray⟩] w fun e w' => e = .returned (.int .i64 (a0B a b)) ∧ w' = w := by
  go_enter func127, Tryz.ntmps127
  go_wp2
  rw [run_callFunc_extern func182 (by kernel_rfl) (by kernel_rfl) (by kernel_rfl) (e := Extern.BytealgCompare.compare) (by kernel_rfl), Lib.run_compareString]; simp only [Result.andThen]; rw [Oper.upon_value]
  go_wp2
  go_ret
  simp [a0B]
theorem b5A (a b : Str) : Ctr prog 127 [.d (.str a), .d (.str b)] (.d (.int .i64 (a0B a b))) := by
  refine Ctr.same (xs := [.str a, .str b]) (enters_of func127 (by kernel_rfl) rfl) (b4Y a b) (fun w L og vals h => ?_) (fun w L => RepV.int); obtain ⟨v, us, rfl, h1, v2, us2, rfl, h2, h3⟩ := h; obtain rfl : us2 = [] := h3; obtain rfl := RepV.str_inv h1; obtain rfl := RepV.str_inv h2; rfl
theorem a6H (a b : Str) : Ctr prog 77 [.d (.str a), .d (.str b)] (.d (.int .i64 (a0B a b))) := by
  refine fv (fun _ => false) func77 (by kernel_rfl) rfl rfl rfl rfl rfl ?_; simp -implicitDefEqProofs; refine A1 (b5A a b) ?_; simp -implicitDefEqProofs
end Go.Proofs.Tz
namespace Go.Proofs.Tz
open Go.Vw Go.RowKit Go.Proofs Go.Sort
abbrev d0P := {c : Chg // S4 c}
instance : Inhabited d0P := ⟨⟨P3, ⟨by simp [P3], by simp [P3], by simp [P3], by simp [P3]⟩⟩⟩
end Go.Proofs.Tz
namespace Go.Proofs.Tz
open Go.Vw Go.RowKit Go.Proofs
end Go.Proofs.Tz
namespace Go.Proofs.Tz
open Go.Vw Go.RowKit Go.Proofs Go.Sort
end Go.Proofs.Tz
namespace Go.Proofs.Tz
open Go.Vw Go.RowKit Go.Proofs
def H6 (s : Str) : Str × Bool := match K1 s with
  | some (p :: l) => ((F4 l).1, true)
  | _ => ([], false)
def S1 (a b : Str) : Int := if a < b then -1 else if b < a then 1 else 0
theorem a2Y {a b : Str} : S1 a b = 0 ↔ a = b := by
  unfold S1; constructor
  · intro h; split at h
    · cases h
    · split at h
      · cases h
      · rename_i h1 h2; exact a2L h1 h2
  · rintro rfl; simp [a4I]
theorem a4s {a b : Str} : S1 a b < 0 ↔ a < b := by
  unfold S1; split
  · rename_i h; simp [h]
  · rename_i h
    simp only [h, iff_false]; split <;> omega
theorem c0d (a : Str) : S1 a a = 0 := a2Y.2 rfl
theorem a6W (a b : Str) : S1 b a = - S1 a b := by
  unfold S1; by_cases h1 : a < b
  · have h2 : ¬ b < a := fun h => a4I _ (a1j h1 h)
    simp [h1, h2]
  · by_cases h2 : b < a
    · simp [h1, h2]
    · simp [h1, h2]
def a0b (p q : F6) : Int := if S1 p.1 q.1 = 0 then S1 p.2 q.2 else S1 p.1 q.1
theorem a3b {p q : F6} : a0b p q = 0 ↔ p = q := by
  unfold a0b; split
  · rename_i h
    rw [a2Y] at h ⊢; obtain ⟨a, b⟩ := p; obtain ⟨c, d⟩ := q; simp only at h; simp [h]
  · rename_i h
    constructor
    · intro h2; exact absurd h2 h
    · rintro rfl; exact absurd (c0d _) h
theorem c0D (p q : F6) : a0b q p = - a0b p q := by
  unfold a0b; rw [a6W p.1 q.1]; by_cases h : S1 p.1 q.1 = 0
  · simp [h, a6W p.2 q.2]
  · have h' : ¬ (- S1 p.1 q.1 = 0) := (by omega); rw [if_neg h, if_neg h']
def ltP (p q : F6) : Prop := p.1 < q.1 ∨ (p.1 = q.1 ∧ p.2 < q.2)
theorem a9E {p q : F6} : a0b p q < 0 ↔ ltP p q := by
  unfold a0b ltP; by_cases h : S1 p.1 q.1 = 0
  · rw [if_pos h, a4s]; rw [a2Y] at h; constructor
    · intro h2; exact .inr ⟨h, h2⟩
    · rintro (h2 | h2)
      · rw [h] at h2; exact absurd h2 (a4I _)
      · exact h2.2
  · rw [if_neg h, a4s]; constructor
    · exact .inl
    · rintro (h2 | h2)
      · exact h2
      · exact absurd (a2Y.2 h2.1) h
theorem b9o {p q r : F6} (h1 : ltP p q) (h2 : ltP q r) : ltP p r := by
  rcases h1 with h1 | ⟨e1, h1⟩ <;> rcases h2 with h2 | ⟨e2, h2⟩
  · exact .inl (a1j h1 h2)
  · exact .inl (e2 ▸ h1)
  · exact .inl (e1 ▸ h2)
  · exact .inr ⟨e1.trans e2, a1j h1 h2⟩
def P1 : List F6 → List F6 → Int
  | [], [] => 0
  | [], _ :: _ => -1
  | _ :: _, [] => 1
  | p :: l, q :: m => if a0b p q = 0 then P1 l m else a0b p q
theorem b2t : ∀ {l m : List F6}, P1 l m = 0 ↔ l = m
  | [], [] => by simp [P1]
  | [], _ :: _ => by simp [P1]
  | _ :: _, [] => by simp [P1]
  | p :: l, q :: m => by
    simp only [P1]; split
    · rename_i h
      rw [b2t, a3b.1 h]; simp
    · rename_i h
      constructor
      · intro h2; exact absurd h2 h
      · intro e; simp only [List.cons.injEq] at e; exact absurd (a3b.2 e.1) h
theorem b2D : ∀ (l m : List F6), P1 m l = - P1 l m
  | [], [] => by simp [P1]
  | [], _ :: _ => by simp [P1]
  | _ :: _, [] => by simp [P1]
  | p :: l, q :: m => by
    simp only [P1]; rw [c0D p q, b2D l m]; by_cases h : a0b p q = 0
    · simp [h]
    · have h' : ¬ (- a0b p q = 0) := (by omega); rw [if_neg h, if_neg h']
theorem b0j : ∀ {l m n : List F6}, P1 l m < 0 → P1 m n < 0 → P1 l n < 0
  | [], [], _, h, _ => by simp [P1] at h
  | [], _ :: _, [], _, h => by simp [P1] at h
  | [], _ :: _, _ :: _, _, _ => by simp [P1]
  | _ :: _, [], _, h, _ => by simp [P1] at h
  | _ :: _, _ :: _, [], _, h => by simp [P1] at h
  | p :: l, q :: m, r :: n, h1, h2 => by
    simp only [P1] at h1 h2 ⊢; by_cases e1 : a0b p q = 0
    · have e1' := a3b.1 e1; subst e1'; rw [if_pos e1] at h1; by_cases e2 : a0b p r = 0
      · rw [if_pos e2] at h2 ⊢; exact b0j h1 h2
      · rw [if_neg e2] at h2 ⊢; exact h2
    · rw [if_neg e1] at h1; by_cases e2 : a0b q r = 0
      · have e2' := a3b.1 e2; subst e2'; rw [if_neg e1]; exact h1
      · rw [if_neg e2] at h2; have h3 := a9E.2 (b9o (a9E.1 h1) (a9E.1 h2)); have : a0b p r ≠ 0 := (by omega); rw [if_neg this]; exact h3
def a0k (a b : Str) : Int := match K1 a, K1 b with
  | some l, some m => P1 l.reverse m.reverse
  | some _, none => -1
  | none, some _ => 1
  | none, none => S1 a b
theorem a4C {a b : Str} : a0k a b = 0 ↔ a = b := by
  unfold a0k; split
  · rename_i l m h1 h2
    rw [b2t]; constructor
    · intro h; have : l = m := by simpa using congrArg List.reverse h
      subst this; exact b2w h1 h2
    · rintro rfl; rw [h1] at h2; simp only [Option.some.injEq] at h2; rw [h2]
  · rename_i h1 h2
    simp only [Int.reduceNeg, Int.neg_eq_zero, Int.one_ne_zero, false_iff]; rintro rfl; rw [h1] at h2; cases h2
  · rename_i h1 h2
    simp only [Int.one_ne_zero, false_iff]; rintro rfl; rw [h1] at h2; cases h2
  · exact a2Y
theorem b9m (a b : Str) : a0k b a = - a0k a b := by
  unfold a0k; cases K1 a <;> cases K1 b <;> simp only [Int.neg_neg]
  · exact a6W a b
  · exact b2D _ _
theorem b8h {a b c : Str} (h1 : a0k a b < 0) (h2 : a0k b c < 0) : a0k a c < 0 := by
  unfold a0k at *; cases ha : K1 a <;> cases hb : K1 b <;> cases hc : K1 c <;> simp only [ha, hb, hc] at h1 h2 ⊢ <;> try omega
  · exact a4s.2 (a1j (a4s.1 h1) (a4s.1 h2))
  · exact b0j h1 h2
theorem b1Y (a : Str) : a0k a a = 0 := a4C.2 rfl
theorem b1X (x : Str) : Ctr prog 203 [.d (.str x)] (.d (.bool false)) := by
  refine fv (fun _ => false) func203 (by kernel_rfl) rfl rfl rfl rfl rfl ?_; simp -implicitDefEqProofs
theorem b6N (x y : Str) : (x < y ∧ S1 x y = -1 ∧ Op.bytesLess x y = true) ∨ (y < x ∧ S1 x y = 1 ∧ Op.bytesLess x y = false ∧ decide (x = y) = false) ∨ (x = y ∧ S1 x y = 0) := by
  by_cases h1 : x < y
  · exact .inl ⟨h1, by simp [S1, h1], c1s.2 h1⟩
  by_cases h2 : y < x
  · refine .inr (.inl ⟨h2, by simp [S1, h1, h2], b4b.2 h1, ?_⟩); rw [decide_eq_false_iff_not]; rintro rfl; exact h1 h2
  · exact .inr (.inr ⟨a2L h1 h2, by simp [S1, h1, h2]⟩)
theorem a7s (x y : Str) : Ctr prog 164 [.d (.str x), .d (.str y)] (.d (.int .i64 (S1 x y))) := by
  refine fv (fun _ => false) func164 (by kernel_rfl) rfl rfl rfl rfl rfl ?_; have c1 := b1X x; have c2 := b1X y; rcases b6N x y with ⟨_, h1, h2⟩ | ⟨_, h1, h2, h3⟩ | ⟨h1, h2⟩
  · rw [h1]; simp -implicitDefEqProofs; refine A1 c1 ?_; simp -implicitDefEqProofs; refine A1 c2 ?_; simp -implicitDefEqProofs [h2]
  · rw [h1]; simp -implicitDefEqProofs; refine A1 c1 ?_; simp -implicitDefEqProofs; refine A1 c2 ?_; simp -implicitDefEqProofs [h2, h3]
  · rw [h2]; subst h1; have h3 : Op.bytesLess x x = false := b4b.2 (a4I x); simp -implicitDefEqProofs; refine A1 c1 ?_; simp -implicitDefEqProofs; refine A1 c2 ?_; simp -implicitDefEqProofs [h3]
theorem b0W (s : Str) : H6 s = if H5 s = true then (match (C8 s).1 with | _ :: l => ((F4 l).1, true) | [] => ([], false)) else ([], false) := by
  rw [H6, a3W]; by_cases h : H5 s = true
  · rw [if_pos h, if_pos h]; cases (C8 s).1 <;> rfl
  · rw [if_neg h, if_neg h]
theorem a5E.tail {p : F6} {l : List F6} (h : a5E (p :: l)) : a5E l := ⟨by have := h.1; simp at this; omega, fun q hq => h.2 q (by simp [hq])⟩
theorem b7p (s : Str) (hs : List.length s < 900000) : Ctr prog 67 [.d (.str s)] (.tup [.d (.str (H6 s).1), .d (.bool (H6 s).2)]) := by
  refine H1 (rv := .tmp 2) (rs := [.tmp 3]) (r := .d (.str (H6 s).1)) (ys := [.d (.bool (H6 s).2)]) (fun i => false) (by kernel_rfl) func67 (by kernel_rfl) rfl rfl (by simp) (nbl rfl) (by kernel_rfl) rfl rfl ?_; have c1 := a2d s hs; have hf := X4 s; rw [b0W]; generalize (C8 s).1 = l at *; simp only [G1] at c1; by_cases hv : H5 s = true
  · cases l with
    | nil =>
      simp -implicitDefEqProofs; refine A1 c1 ?_; simp -implicitDefEqProofs [hv]
    | cons p l =>
      rw [if_pos hv]; dsimp only; have c2 := a5N l hf.tail; have hlen : ¬ ((l.length : Int) + 1 = 0) := (by omega); have htk : List.take l.length (l.map F9) = l.map F9 := ttl (by simp); generalize F4 l = G at *; obtain ⟨t, g⟩ := G; simp only [G1] at c2; simp -implicitDefEqProofs; refine A1 c1 ?_; simp -implicitDefEqProofs [hv, hlen, htk]; refine ⟨⟨rfl, by rintro _ x y _ rfl; rfl⟩, ?_⟩; refine A1 c2 ?_; simp -implicitDefEqProofs
  · simp -implicitDefEqProofs; refine A1 c1 ?_; simp -implicitDefEqProofs [hv]
theorem b3D {s : Str} (h : H5 s = true) : a5q s = (C8 s).1 := by rw [b2x, if_pos h]
theorem b5Q (s : Str) (hs : List.length s < 900000) : Ctr prog 69 [.d (.str s)] (.tup [.d (.str (H6 s).1), .d (.bool (H6 s).2)]) := by
  refine H1 (rv := .tmp 2) (rs := [.tmp 3]) (r := .d (.str (H6 s).1)) (ys := [.d (.bool (H6 s).2)]) (fun i => false) (by kernel_rfl) func69 (by kernel_rfl) rfl rfl (by simp) (nbl rfl) (by kernel_rfl) rfl rfl ?_; have c1 := b2r s hs; have hf := X4 s; rw [b0W]; by_cases hv : H5 s = true
  · rw [b3D hv] at c1; generalize (C8 s).1 = l at *; simp only [G1] at c1; cases l with
    | nil =>
      simp -implicitDefEqProofs; refine A1 c1 ?_; simp -implicitDefEqProofs [hv]
    | cons p l =>
      rw [if_pos hv]; dsimp only; have c2 := a8P l hf.tail; have hlen : ¬ ((l.length : Int) + 1 = 0) := (by omega); have htk : List.take l.length (l.map F9) = l.map F9 := ttl (by simp); generalize F4 l = G at *; obtain ⟨t, g⟩ := G; simp only [G1] at c2; simp -implicitDefEqProofs; refine A1 c1 ?_; simp -implicitDefEqProofs [hv, hlen, htk]; refine ⟨⟨rfl, by rintro _ x y _ rfl; rfl⟩, ?_⟩; refine A1 c2 ?_; simp -implicitDefEqProofs
  · simp only [G1] at c1; simp -implicitDefEqProofs; refine A1 c1 ?_; simp -implicitDefEqProofs [hv]
theorem a8G {l : List F6} {k : Nat} (h : k < l.length) : l.reverse[k]'(by simpa using h) = l[l.length - 1 - k]'(by omega) := by
  rw [List.getElem_reverse]
theorem b9H (l m : List F6) (k : Nat) (hk : k < l.length) (hk' : k < m.length) (hl : l.length < 1000000) (hm : m.length < 1000000) :
    Ctr prog 165 [.d (.int .i64 k), .d (.ref (G1 l)), .d (.ref (G1 m))] (.d (.int .i64 (a0b (l[l.length - 1 - k]'(by omega)) (m[m.length - 1 - k]'(by omega))))) := by
  refine fv (fun i => i == 9000001) func165 (by kernel_rfl) rfl rfl rfl rfl rfl ?_; have i1 : (0 : Int) ≤ (l.length : Int) - 1 - k := (by omega); have i2 : (0 : Int) ≤ (m.length : Int) - 1 - k := (by omega); have e1 : ((l.length : Int) - 1 - k).toNat = l.length - 1 - k := (by omega); have e2 : ((m.length : Int) - 1 - k).toNat = m.length - 1 - k := (by omega); have b1 : l.length - 1 - k < l.length := (by omega); have b2 : m.length - 1 - k < m.length := (by omega); generalize hx : l[l.length - 1 - k] = x; generalize hy : m[m.length - 1 - k] = y; obtain ⟨x1, x2⟩ := x; obtain ⟨y1, y2⟩ := y; have c1 := a7s x1 y1; have c2 := a7s x2 y2; have c3 := a5y [S1 x1 y1, S1 x2 y2] (by simp); have hor : orI [S1 x1 y1, S1 x2 y2] = a0b (x1, x2) (y1, y2) := by
    unfold a0b; simp only [orI]; by_cases h : S1 x1 y1 = 0
    · by_cases h' : S1 x2 y2 = 0 <;> simp [h, h']
    · simp [h]
  rw [hor] at c3; simp only [a1X, List.map_cons, List.map_nil] at c3; simp -implicitDefEqProofs [G1, i1, i2, e1, e2, b1, b2, hx, hy, F9]; (repeat refine ai (by omega) ?_); refine F0 c1 ?_; simp -implicitDefEqProofs; refine F0 c2 ?_; simp -implicitDefEqProofs; refine ⟨by decide, F0 c3 ?_⟩; simp -implicitDefEqProofs
theorem b9c {l m : List F6} {k : Nat} (hk : k < l.length) (hk' : k < m.length) : P1 (l.reverse.drop k) (m.reverse.drop k) =
    if a0b (l[l.length - 1 - k]'(by omega)) (m[m.length - 1 - k]'(by omega)) = 0 then P1 (l.reverse.drop (k + 1)) (m.reverse.drop (k + 1)) else a0b (l[l.length - 1 - k]'(by omega)) (m[m.length - 1 - k]'(by omega)) := by
  rw [List.drop_eq_getElem_cons (show k < l.reverse.length by simpa using hk), List.drop_eq_getElem_cons (show k < m.reverse.length by simpa using hk'), P1, a8G hk, a8G hk']
theorem c0N {l m : List F6} {k : Nat} (hk : k = min l.length m.length) : P1 (l.reverse.drop k) (m.reverse.drop k) = a1h l.length m.length := by
  rcases Nat.lt_trichotomy l.length m.length with h | h | h
  · have e1 : l.reverse.drop k = [] := List.drop_eq_nil_of_le (by simp; omega); rw [e1, List.drop_eq_getElem_cons (show k < m.reverse.length by simp; omega), P1, a1h, if_pos (by omega)]
  · rw [List.drop_eq_nil_of_le (by simp; omega), List.drop_eq_nil_of_le (by simp; omega), P1, a1h, if_neg (by omega), if_neg (by omega)]
  · have e1 : m.reverse.drop k = [] := List.drop_eq_nil_of_le (by simp; omega); rw [e1, List.drop_eq_getElem_cons (show k < l.reverse.length by simp; omega), P1, a1h, if_neg (by omega), if_pos (by omega)]
theorem c3L (a b : Str) : a0k a b = if H5 a = true then (if H5 b = true then P1 (C8 a).1.reverse (C8 b).1.reverse else -1) else (if H5 b = true then 1 else S1 a b) := by
  rw [a0k, a3W, a3W]; by_cases h1 : H5 a = true <;> by_cases h2 : H5 b = true <;> simp [h1, h2]
def CoI (l m : List F6) (R : Int) (k : Nat) (τ : St) : Prop := τ 9 = .d (.clo 165 [.ref (G1 l), .ref (G1 m)]) ∧ τ 5 = .d (.ref (G1 l)) ∧ τ 7 = .d (.ref (G1 m)) ∧ τ 45 = .d (.int .i64 (min l.length m.length : Nat)) ∧ τ 46 = .d (.int .i64 k) ∧ P1 (l.reverse.drop k) (m.reverse.drop k) = R
theorem c5e (a b : Nat) : (if (b : Int) < a then (b : Int) else a) = ((min a b : Nat) : Int) := by
  split <;> omega
theorem b5J (a b : Str) (ha : List.length a < 900000) (hb : List.length b < 900000) : Ctr prog 119 [.d (.str a), .d (.str b)] (.d (.int .i64 (a0k a b))) := by
  refine fv (fun i => false) func119 (by kernel_rfl) rfl rfl rfl rfl rfl ?_; have c1 := a2d a ha; have c2 := a2d b hb; have c3 := a7s a b; have f1 := (X4 a).1; have f2 := (X4 b).1; rw [c3L]; generalize (C8 a).1 = l at *; generalize (C8 b).1 = m at *; simp only [G1] at c1 c2; by_cases h1 : H5 a = true
  · by_cases h2 : H5 b = true
    · rw [if_pos h1, if_pos h2]; obtain ⟨R, hR⟩ : ∃ R, P1 l.reverse m.reverse = R := ⟨_, rfl⟩; rw [hR]; simp -implicitDefEqProofs; refine A1 c1 ?_; simp -implicitDefEqProofs; refine A1 c2 ?_; simp -implicitDefEqProofs [h1, h2, c5e]; refine H2 (min l.length m.length) (CoI l m R) ⟨by simp [G1], by simp [G1], by simp [G1], by simp; split <;> omega, by simp, by simpa using hR⟩ ?_; rintro k τ hk ⟨g9, g5, g7, g45, g46, hI⟩; by_cases hlt : k < min l.length m.length
      · have hk1 : k < l.length := (by omega); have hk2 : k < m.length := (by omega); have hlt' : (k : Int) < ((min l.length m.length : Nat) : Int) := (by omega); have c4 := b9H l m k hk1 hk2 f1 f2; rw [b9c hk1 hk2] at hI; simp only [G1] at c4; generalize a0b (l[l.length - 1 - k]'(by omega)) (m[m.length - 1 - k]'(by omega)) = C at *; generalize hmn : min l.length m.length = N at *; by_cases h0 : C = 0
        · rw [if_pos h0] at hI; subst h0; simp -implicitDefEqProofs [g9, g5, g7, g45, g46, hlt']; refine A1 c4 ?_; simp -implicitDefEqProofs [g9, g5, g7, g45, g46, hlt']; (repeat refine ai (by omega) ?_); exact D7 hlt ⟨by simp [g9, G1], by simp [g5, G1], by simp [g7, G1], by simp [g45, hmn], by simp, hI⟩
        · rw [if_neg h0] at hI; rw [hI] at c4 h0; simp -implicitDefEqProofs [g9, g5, g7, g45, g46, hlt']; refine A1 c4 ?_; simp -implicitDefEqProofs [g9, g5, g7, g45, g46, hlt', h0]
      · have hke : k = min l.length m.length := (by omega); have hlt' : ¬ (k : Int) < ((min l.length m.length : Nat) : Int) := (by omega); have c4 := a8s l.length m.length; rw [c0N hke] at hI; rw [hI] at c4; generalize min l.length m.length = N at *; simp -implicitDefEqProofs [g9, g5, g7, g45, g46, hlt', G1]; refine A1 c4 ?_; simp -implicitDefEqProofs [g9, g5, g7, g45, g46]
    · simp -implicitDefEqProofs; refine A1 c1 ?_; simp -implicitDefEqProofs; refine A1 c2 ?_; simp -implicitDefEqProofs [h1, h2]
  · by_cases h2 : H5 b = true
    · simp -implicitDefEqProofs; refine A1 c1 ?_; simp -implicitDefEqProofs; refine A1 c2 ?_; simp -implicitDefEqProofs [h1, h2]
    · simp -implicitDefEqProofs; refine A1 c1 ?_; simp -implicitDefEqProofs; refine A1 c2 ?_; simp -implicitDefEqProofs [h1, h2]; refine A1 c3 ?_; simp -implicitDefEqProofs
abbrev VK := Str × Str
abbrev idC (c : Chg) : Str := c.2.2.1
abbrev opC (c : Chg) : Int := c.2.1
abbrev nmC (c : Chg) : Str := c.2.2.2.1
abbrev a1t (c : Chg) : VK := c.2.2.2.2
structure Abt where
  cr : Bool
  rm : Bool
  nm : Chg
  vs : List (VK × Chg)
def R5 : Abt := ⟨false, false, P3, []⟩
def ltM (a b : Chg) : Bool := decide (orI [a3g a.1 b.1, a0B (N6 a).1 (N6 b).1] < 0)
def S2 (a b : Chg) : Chg := if opC a = 0 ∨ (opC b ≠ 0 ∧ ltM a b = true) then b else a
def a5I (vs : List (VK × Chg)) (k : VK) : Option Chg := (vs.find? fun p => decide (p.1 = k)).map (·.2)
def a0O (vs : List (VK × Chg)) (k : VK) : Chg := (a5I vs k).getD P3
def a4S (vs : List (VK × Chg)) (k : VK) (c : Chg) : List (VK × Chg) := if vs.any (fun p => decide (p.1 = k)) then vs.map (fun p => if p.1 = k then (p.1, c) else p) else vs ++ [(k, c)]
def Q7 (a : Abt) (c : Chg) : Abt :=
  if opC c = 1 then { a with cr := true, nm := S2 a.nm c }
  else if opC c = 3 then { a with nm := S2 a.nm c }
  else if opC c = 2 then { a with rm := true }
  else { a with vs := a4S a.vs (a1t c) (S2 (a0O a.vs (a1t c)) c) }
abbrev a3l := List (Str × Abt)
def Y0 (A : a3l) (id : Str) : Option Abt := (A.find? fun p => decide (p.1 = id)).map (·.2)
def a3Z (A : a3l) (c : Chg) : a3l := if A.any (fun p => decide (p.1 = idC c)) then A.map (fun p => if p.1 = idC c then (p.1, Q7 p.2 c) else p) else A ++ [(idC c, Q7 R5 c)]
def S8 (R : List Chg) : a3l := R.foldl a3Z []
theorem a4y (R : List Chg) (c : Chg) : S8 (R ++ [c]) = a3Z (S8 R) c := by simp [S8]
theorem b2v {A : a3l} {id : Str} : Y0 A id = none ↔ ∀ p ∈ A, p.1 ≠ id := by
  simp [Y0, List.find?_eq_none]
theorem b8H {A : a3l} {id : Str} {a : Abt} (hn : (A.map (·.1)).Nodup) : Y0 A id = some a ↔ (id, a) ∈ A := by
  induction A with
  | nil => simp [Y0]
  | cons p A ih =>
    rw [List.map_cons, List.nodup_cons] at hn; by_cases h : p.1 = id
    · have : Y0 (p :: A) id = some p.2 := (by simp [Y0, h]); rw [this]; constructor
      · intro e; simp only [Option.some.injEq] at e; subst e; subst h; exact List.mem_cons.2 (.inl rfl)
      · intro e; rcases List.mem_cons.1 e with e | e
        · rw [← e]
        · exact absurd (List.mem_map.2 ⟨_, e, rfl⟩) (by rw [← h]; exact hn.1)
    · have : Y0 (p :: A) id = Y0 A id := (by simp [Y0, h]); rw [this, ih hn.2]; constructor
      · intro e; exact List.mem_cons_of_mem _ e
      · intro e; rcases List.mem_cons.1 e with e | e
        · exact absurd (by rw [← e]) h
        · exact e
theorem b9E (A : a3l) (c : Chg) : (a3Z A c).map (·.1) = if A.any (fun p => decide (p.1 = idC c)) then A.map (·.1) else A.map (·.1) ++ [idC c] := by
  unfold a3Z; split
  · rw [List.map_map]; refine List.map_congr_left fun p _ => ?_
    simp only [Function.comp_apply]; split <;> rfl
  · simp
theorem b7M {A : a3l} (hn : (A.map (·.1)).Nodup) (c : Chg) : ((a3Z A c).map (·.1)).Nodup := by
  rw [b9E]; split
  · exact hn
  · rename_i h
    refine List.nodup_append.2 ⟨hn, by simp, fun x hx z hz => ?_⟩; simp only [List.mem_singleton] at hz; subst hz; rintro rfl; obtain ⟨p, hp, e⟩ := List.mem_map.1 hx; exact h (List.any_eq_true.2 ⟨p, hp, by simpa using e⟩)
theorem a3z (R : List Chg) : ((S8 R).map (·.1)).Nodup := by
  have : ∀ (R : List Chg) (A : a3l), (A.map (·.1)).Nodup → ((R.foldl a3Z A).map (·.1)).Nodup := by
    intro R
    induction R with
    | nil => intro A h; exact h
    | cons c R ih => intro A h; exact ih _ (b7M h c)
  exact this R [] (by simp)
def abF (R : List Chg) (id : Str) : Abt := (R.filter fun c => decide (idC c = id)).foldl Q7 R5
theorem a3U (R : List Chg) (c : Chg) (id : Str) : abF (R ++ [c]) id = if idC c = id then Q7 (abF R id) c else abF R id := by
  unfold abF; by_cases h : idC c = id <;> simp [h]
theorem V8 {α : Type} {P : List α → Prop} (h0 : P []) (h1 : ∀ l a, P l → P (l ++ [a])) (l : List α) : P l := by
  have : ∀ l : List α, P l.reverse := fun l => by
    induction l with
    | nil => exact h0
    | cons a l ih => rw [List.reverse_cons]; exact h1 _ _ ih
  simpa using this l.reverse
theorem b5b (k : Str) (f : Abt → Abt) (id : Str) : ∀ A : a3l, Y0 (A.map fun p => if p.1 = k then (p.1, f p.2) else p) id = if k = id then (Y0 A id).map f else Y0 A id
  | [] => by simp [Y0]
  | p :: A => by
    have ih := b5b k f id A; unfold Y0 at ih ⊢; rw [List.map_cons]; by_cases h1 : p.1 = k <;> by_cases h2 : p.1 = id
    · have : k = id := h1.symm.trans h2; simp [h1, h2, this]
    · have : ¬ k = id := fun e => h2 (h1.trans e)
      rw [if_neg this] at ih ⊢; simp [h1, h2, this]; simpa [h1] using ih
    · have : ¬ k = id := fun e => h1 (h2.trans e.symm)
      rw [if_neg h1, List.find?_cons_of_pos (by simpa using h2), List.find?_cons_of_pos (by simpa using h2), if_neg this]
    · rw [if_neg h1, List.find?_cons_of_neg (by simpa using h2), List.find?_cons_of_neg (by simpa using h2)]; exact ih
theorem c0y {A : a3l} (c : Chg) (id : Str) : Y0 (a3Z A c) id = if idC c = id then some (Q7 ((Y0 A id).getD R5) c) else Y0 A id := by
  unfold a3Z; by_cases ha : A.any (fun p => decide (p.1 = idC c)) = true
  · rw [if_pos ha, b5b (idC c) (fun a => Q7 a c) id A]; by_cases h : idC c = id
    · rw [if_pos h, if_pos h]; obtain ⟨p, hp, e⟩ := List.any_eq_true.1 ha; cases hg : Y0 A id with
      | none => exact absurd ((by simpa using e : p.1 = idC c).trans h) (b2v.1 hg p hp)
      | some a => rfl
    · rw [if_neg h, if_neg h]
  · rw [if_neg ha]; have hn : Y0 A (idC c) = none := b2v.2 fun p hp e => ha (List.any_eq_true.2 ⟨p, hp, by simpa using e⟩)
    by_cases h : idC c = id
    · rw [if_pos h]; rw [h] at hn; rw [hn]; unfold Y0 at hn ⊢; rw [List.find?_append]; cases hf : List.find? (fun p => decide (p.1 = id)) A with
      | some x => rw [hf] at hn; simp at hn
      | none => simp [h]
    · rw [if_neg h]; unfold Y0; rw [List.find?_append]; cases hf : List.find? (fun p => decide (p.1 = id)) A with
      | some x => simp
      | none => simp [h]
theorem c0I {R : List Chg} {id : Str} (h : R.any (fun c => decide (idC c = id)) = false) : abF R id = R5 := by
  have : R.filter (fun c => decide (idC c = id)) = [] := by
    rw [List.filter_eq_nil_iff]; intro c hc; have := List.any_eq_false.1 h c hc; exact this
  simp [abF, this]
theorem c0P (R : List Chg) (id : Str) : Y0 (S8 R) id = if R.any (fun c => decide (idC c = id)) then some (abF R id) else none := by
  refine V8 (P := fun R => Y0 (S8 R) id = if R.any (fun c => decide (idC c = id)) then some (abF R id) else none) rfl (fun R c ih => ?_) R; rw [a4y, c0y, ih, a3U, List.any_append]; by_cases h : idC c = id
  · rw [if_pos h, if_pos h]; cases ha : R.any (fun c => decide (idC c = id)) with
    | true => simp
    | false => simp [h, c0I ha]
  · simp only [h, if_false, List.any_cons, List.any_nil, decide_false, Bool.or_false]
theorem a5v {R : List Chg} {id : Str} {a : Abt} : (id, a) ∈ S8 R ↔ (∃ c ∈ R, idC c = id) ∧ a = abF R id := by
  rw [← b8H (a3z R), c0P]; by_cases h : R.any (fun c => decide (idC c = id)) = true
  · rw [if_pos h]; have h2 : ∃ c ∈ R, idC c = id := by
      obtain ⟨c, hc, e⟩ := List.any_eq_true.1 h; exact ⟨c, hc, by simpa using e⟩
    simp only [Option.some.injEq, h2, true_and]; exact eq_comm
  · rw [if_neg h]; simp only [reduceCtorEq, false_iff, not_and]; rintro ⟨c, hc, e⟩; exact absurd (List.any_eq_true.2 ⟨c, hc, by simpa using e⟩) h
def vkD (k : VK) : D := .agg [.str k.1, .str k.2]
def P5 (a : Abt) (x : D) : D := .agg [.bool a.cr, .bool a.rm, B0 a.nm, x]
abbrev X9 := Str × Abt × Nat × Nat
def vsM (vs : List (VK × Chg)) : List (D × D) := vs.map fun p => (vkD p.1, B0 p.2)
def R9 (R : List Chg) : List (D × D) := R.map fun c => (B0 c, D.bool true)
def S9 (L : List X9) : List (D × D) := L.map fun e => (D.str e.1, D.raw (va e.2.2.1))
def a2w (e : X9) : List AV := [.hb (va e.2.2.1) 78 (P5 e.2.1 (.raw (.map (some e.2.2.2)))), .hm (.map (some e.2.2.2)) 101 (vsM e.2.1.vs) none]
def U0 (s r m : Nat) (R : List Chg) (L : List X9) : List AV :=
  [.hb (va s) 65 (.agg [.raw (.map (some r)), .raw (.map (some m))]), .hm (.map (some r)) 35 (R9 R) none, .hm (.map (some m)) 9 (S9 L) none]
def stH (s r m : Nat) (R : List Chg) (L : List X9) : List AV := U0 s r m R L ++ L.flatMap a2w
def Z2 (L : List X9) : a3l := L.map fun e => (e.1, e.2.1)
def AbD (a : Abt) (d : D) : Prop := ∃ u V bs clk, d = .ref (P5 a (.map u (V.map fun p => vkD p.1) (V.map fun p => B0 p.2) bs clk)) ∧ List.Perm V a.vs
def StD (R : List Chg) (d : D) : Prop := ∃ u1 R1 bs1 c1 u2 bs2 c2, ∃ M : List (Str × Abt × D), d = .ref (.agg [.map u1 (R1.map B0) (R1.map fun _ => .bool true) bs1 c1, .map u2 (M.map fun x => .str x.1) (M.map fun x => x.2.2) bs2 c2]) ∧
  List.Perm R1 R ∧ List.Perm (M.map fun x => (x.1, x.2.1)) (S8 R) ∧ ∀ x ∈ M, AbD x.2.1 x.2.2
theorem a2k {α β : Type} {f : α → β} {m x : List β} (h : List.Perm m x) : ∀ {l : List α}, x = l.map f → ∃ V, List.Perm V l ∧ V.map f = m := by
  induction h with
  | nil => intro l e; cases l <;> simp at e; exact ⟨[], .nil, rfl⟩
  | cons a _ ih =>
    intro l e; cases l with
    | nil => simp at e
    | cons y l =>
      simp only [List.map_cons, List.cons.injEq] at e; obtain ⟨rfl, e⟩ := e; obtain ⟨V, h1, h2⟩ := ih e; exact ⟨y :: V, h1.cons y, by simp [h2]⟩
  | swap a b l2 =>
    intro l e; cases l with
    | nil => simp at e
    | cons y l =>
      cases l with
      | nil => simp at e
      | cons z l =>
        simp only [List.map_cons, List.cons.injEq] at e; obtain ⟨rfl, rfl, rfl⟩ := e; exact ⟨z :: y :: l, List.Perm.swap y z l, by simp⟩
  | trans _ _ ih1 ih2 =>
    intro l e; obtain ⟨V, h1, h2⟩ := ih2 e; obtain ⟨V', h3, h4⟩ := ih1 h2.symm; exact ⟨V', h3.trans h1, h4⟩
theorem a8j {P : Program} {w : World} {L : Nat → Nat → Prop} {hs : List AV} : ∀ ds : List D, LnL P w L hs ds ds
  | [] => .nil
  | d :: ds => .cons (.same d) (a8j ds)
theorem c4X {w : World} {L : Nat → Nat → Prop} {hs : List AV} (hr : ∀ x ∈ hs, RH prog w L x) {e : X9} (he : ∀ x ∈ a2w e, x ∈ hs) : ∃ d, AbD e.2.1 d ∧ Ln prog w L hs (.raw (va e.2.2.1)) d := by
  have h1 := he (.hm (.map (some e.2.2.2)) 101 (vsM e.2.1.vs) none) (by simp [a2w]); have h2 := he (.hb (va e.2.2.1) 78 (P5 e.2.1 (.raw (.map (some e.2.2.2))))) (by simp [a2w]); obtain ⟨g, m', es, clk, k1, k2, k3, k4, k5, k6, _⟩ : a1e prog w L _ 101 (vsM e.2.1.vs) none (.map (some e.2.2.2)) := (hr _ h1).2; simp only [Value.map.injEq, Option.some.injEq] at k2; subst k2; obtain ⟨V, v1, v2⟩ := a2k k5 rfl; refine ⟨_, ⟨.map (some e.2.2.2), V, es.toList.map (·.born), clk, rfl, v1⟩, .box h2 ?_⟩; refine .agg (.cons (.same _) (.cons (.same _) (.cons (.same _) (.cons ?_ .nil)))); have := Ln.map (P := prog) h1 k3 k6 k5 (a8j _); rw [← v2] at this; simpa [Function.comp_def] using this
theorem b6v {w : World} {L : Nat → Nat → Prop} {hs : List AV} (hr : ∀ x ∈ hs, RH prog w L x) : ∀ {E : List X9}, (∀ e ∈ E, ∀ x ∈ a2w e, x ∈ hs) →
    ∃ M : List (Str × Abt × D), (M.map fun x => (x.1, x.2.1)) = Z2 E ∧ (M.map fun x => D.str x.1) = E.map (fun e => D.str e.1) ∧ LnL prog w L hs (E.map fun e => .raw (va e.2.2.1)) (M.map fun x => x.2.2) ∧ ∀ x ∈ M, AbD x.2.1 x.2.2
  | [], _ => ⟨[], rfl, rfl, .nil, by simp⟩
  | e :: E, he => by
    obtain ⟨M, m1, m2, m3, m4⟩ := b6v hr (E := E) (fun e' h' => he e' (by simp [h'])); obtain ⟨d, d1, d2⟩ := c4X hr (he e (by simp)); refine ⟨(e.1, e.2.1, d) :: M, by simp [Z2] at m1 ⊢; exact m1, by simp at m2 ⊢; exact m2, .cons d2 m3, fun x hx => ?_⟩; rcases List.mem_cons.1 hx with rfl | hx
    · exact d1
    · exact m4 x hx
theorem c1b {w : World} {L : Nat → Nat → Prop} {hs : List AV} (hr : ∀ x ∈ hs, RH prog w L x) {s r m : Nat} {R : List Chg} {E : List X9} (hE : Z2 E = S8 R) (hh : ∀ x ∈ stH s r m R E, x ∈ hs) :
    ∃ d, StD R d ∧ Ln prog w L hs (.raw (va s)) d := by
  have h0 := hh (.hb (va s) 65 (.agg [.raw (.map (some r)), .raw (.map (some m))])) (by simp [stH, U0]); have h1 := hh (.hm (.map (some r)) 35 (R9 R) none) (by simp [stH, U0]); have h2 := hh (.hm (.map (some m)) 9 (S9 E) none) (by simp [stH, U0]); obtain ⟨g, m1, es1, c1, k1, k2, k3, k4, k5, k6, _⟩ : a1e prog w L _ 35 (R9 R) none (.map (some r)) := (hr _ h1).2; simp only [Value.map.injEq, Option.some.injEq] at k2; subst k2; obtain ⟨g, m2, es2, c2, q1, q2, q3, q4, q5, q6, _⟩ : a1e prog w L _ 9 (S9 E) none (.map (some m)) := (hr _ h2).2; simp only [Value.map.injEq, Option.some.injEq] at q2; subst q2; obtain ⟨R1, r1, r2⟩ := a2k k5 rfl; obtain ⟨E1, e1, e2⟩ := a2k q5 rfl; obtain ⟨M, n1, n2, n3, n4⟩ := b6v hr (E := E1) (fun e he x hx => hh x (by
    simp only [stH, List.mem_append, List.mem_flatMap]; exact .inr ⟨e, e1.mem_iff.1 he, hx⟩))
  refine ⟨_, ⟨.map (some r), R1, es1.toList.map (·.born), c1, .map (some m), es2.toList.map (·.born), c2, M, rfl, r1, ?_, n4⟩, .box h0 (.agg (.cons ?_ (.cons ?_ .nil)))⟩
  · rw [n1, ← hE]; exact e1.map _
  · have := Ln.map (P := prog) h1 k3 k6 k5 (a8j _); rw [← r2] at this; simpa [Function.comp_def] using this
  · have h3 : m2.map (·.2) = E1.map fun e => .raw (va e.2.2.1) := by rw [← e2]; simp [S9, Function.comp_def]
    have := Ln.map (P := prog) h2 q3 q6 q5 (by rw [h3]; exact n3); have h4 : m2.map (·.1) = M.map fun x => D.str x.1 := by rw [n2, ← e2]; simp [S9, Function.comp_def]
    rw [h4] at this; exact this
end Go.Proofs.Tz
namespace Go.Proofs.Tz
open Go.Vw
theorem b6f (H : List AV) : ∀ rs : List Row, (∀ r ∈ rs, hnd r ∈ H) → FzL H (rs.map a0X) ((rs.map nv).map att)
  | [], _ => .nil
  | r :: rs, h => .cons (.agg (.cons (.same _) (.cons (.sl (h r (by simp))) .nil))) (b6f H rs fun x hx => h x (by simp [hx]))
theorem b9X (l : List Att) (hl : b6H l) : Ctr prog 100 [.d (a5W l)] (.own true 72 ((O0 l).map att)) := by
  refine (b8g l hl).frozen (by simp) ?_; rintro r hs ⟨rs, rfl, rfl, hp, ha⟩; refine ⟨_, rfl, ?_⟩; have := c0i l (rs.map nv) hp (fun i j hij hj => by
    have := ha i j hij (by simpa using hj); simpa [nv] using this)
  rw [← this]; exact b6f _ rs fun r hr => List.mem_map.2 ⟨r, hr, rfl⟩
theorem b9F (g : FuncId) (cs : List D) (hcs : (cs.all fun c => !c.isAgg) = true) (p : Str → Bool) (l : List Str) (hl : l.length < 1000000) (hp : ∀ a ∈ l, Ctr prog g ([.d (.str a)] ++ cs.map .d) (.d (.bool (p a)))) :
    Ctr prog 115 [.d (B6 l), .d (.clo g cs)] (.d (.int .i64 (a1Y p 0 l))) := by
  refine fv (fun _ => false) func115 (by kernel_rfl) rfl rfl rfl rfl rfl ?_; simp -implicitDefEqProofs [B6]; refine H2 l.length (fun k τ => τ 0 = .d (B6 l) ∧ τ 1 = .d (.clo g cs) ∧ τ 7 = .d (.int .i64 l.length) ∧ τ 8 = .d (.int .i64 k) ∧ a1Y p 0 l = a1Y p k (l.drop k)) (by simp [B6]) ?_; rintro k τ hk ⟨h0, h1, h7, h8, hi⟩; by_cases hlt : k < l.length
  · rw [c0F hlt] at hi; have hf := hp _ (gmm hlt); simp only [List.cons_append, List.nil_append] at hf; simp -implicitDefEqProofs [h0, h1, h7, h8, B6, hlt]; refine ⟨by simpa using hcs, A1 hf ?_⟩; by_cases he : p l[k] = true
    · simp -implicitDefEqProofs [h0, h1, h7, h8, B6, hlt, he]; rw [hi, if_pos he]
    · simp -implicitDefEqProofs [h0, h1, h7, h8, B6, hlt, he]; refine ⟨by omega, D7 hlt ⟨by simp [h0, B6], by simp [h1], by simp [h7], by simp, ?_⟩⟩; rw [hi, if_neg he]
  · simp -implicitDefEqProofs [h0, h1, h7, h8, B6, hlt]; rw [hi, List.drop_eq_nil_of_le (by omega)]; simp -implicitDefEqProofs [a1Y]
theorem b5o {α : Type} (p : α → Bool) : ∀ (l : List α) (k : Nat), a1Y p k l = -1 → l.filter (fun x => !p x) = l
  | [], k, _ => rfl
  | x :: l, k, h => by
    rw [a1Y] at h; by_cases hx : p x = true
    · rw [if_pos hx] at h; omega
    · rw [if_neg hx] at h; simp -implicitDefEqProofs [hx, b5o p l (k + 1) h]
theorem b4p {α : Type} (p : α → Bool) : ∀ (l : List α) (k : Nat), a1Y p k l ≠ -1 → ∃ i : Nat, a1Y p k l = ((k + i : Nat) : Int) ∧ i < l.length ∧ (l.take i).filter (fun x => !p x) = l.take i ∧ (l.take (i + 1)).filter (fun x => !p x) = l.take i
  | [], k, h => absurd rfl h
  | x :: l, k, h => by
    rw [a1Y] at h ⊢; by_cases hx : p x = true
    · rw [if_pos hx]; exact ⟨0, by simp, by simp, by simp, by simp [hx]⟩
    · rw [if_neg hx] at h ⊢; obtain ⟨i, h1, h2, h3, h4⟩ := b4p p l (k + 1) h; refine ⟨i + 1, by rw [h1]; omega, by simpa using h2, ?_, ?_⟩
      · simp -implicitDefEqProofs [hx, h3]
      · rw [List.take_succ_cons, List.filter_cons, if_pos (by simp [hx]), h4, List.take_succ_cons]
end Go.Proofs.Tz
namespace Go.Proofs.Tz
open Go.Vw Go.Lib
theorem b7z {l : List Att} {x : Att} (h : x ∈ O0 l) {v : Str} (hv : v ∈ x.2) : ∃ a ∈ l, D6 a.1 = x.1 ∧ v ∈ a.2 := by
  obtain ⟨n, hn, rfl⟩ := List.mem_map.1 h; have hV := (a0F n l [] (by simp [SS])).2 v; rw [show l.foldl (a5Y n) [] = a6C l n from rfl] at hV; rcases hV.1 hv with h | h
  · simp at h
  · exact h
def b6L (l : List Att) (n v : Str) : Prop := ∃ a ∈ l, D6 a.1 = n ∧ v ∈ a.2
structure NF (s : List Att) : Prop where
  names : SS (s.map (·.1))
  vals : ∀ x ∈ s, SS x.2
  ne : ∀ x ∈ s, x.2 ≠ []
theorem b2s (l : List Att) : NF (O0 l) := by
  have hN := a1C l [] (by simp [SS]); refine ⟨?_, fun x hx => ?_, fun x hx => ?_⟩
  · rw [O0, List.map_map]; rw [show ((fun x : Att => x.1) ∘ fun n => (n, a6C l n)) = id from rfl, List.map_id]; exact hN.1
  · obtain ⟨n, _, rfl⟩ := List.mem_map.1 hx; exact (a0F n l [] (by simp [SS])).1
  · obtain ⟨n, hn, rfl⟩ := List.mem_map.1 hx; have hV := (a0F n l [] (by simp [SS])).2; rcases (hN.2 n).1 hn with h | ⟨a, ha, hne, e⟩
    · simp at h
    · obtain ⟨v, hv⟩ := List.exists_mem_of_ne_nil _ hne; exact List.ne_nil_of_mem ((hV v).2 (.inr ⟨a, ha, e, hv⟩))
theorem b0x (l : List Att) (n v : Str) : Has (O0 l) n v ↔ b6L l n v := by
  have hN := a1C l [] (by simp [SS]); constructor
  · rintro ⟨x, hx, rfl, hv⟩; obtain ⟨a, ha, e, h⟩ := b7z hx hv; exact ⟨a, ha, e, h⟩
  · rintro ⟨a, ha, e, hv⟩; refine ⟨(n, a6C l n), List.mem_map.2 ⟨n, ?_, rfl⟩, rfl, ?_⟩
    · exact (hN.2 n).2 (.inr ⟨a, ha, List.ne_nil_of_mem hv, e⟩)
    · exact ((a0F n l [] (by simp [SS])).2 v).2 (.inr ⟨a, ha, e, hv⟩)
theorem a7P {α : Type} {l : List α} (h : l.Nodup) {i j : Nat} (hi : i < l.length) (hj : j < l.length) (e : l[i] = l[j]) : i = j := by
  have h1 := List.pairwise_iff_getElem.1 h; rcases Nat.lt_trichotomy i j with h2 | h2 | h2
  · exact absurd e (h1 i j hi hj h2)
  · exact h2
  · exact absurd e.symm (h1 j i hj hi h2)
theorem b9G {s : List Att} (hs : NF s) {x y : Att} (hx : x ∈ s) (hy : y ∈ s) (h : x.1 = y.1) : x = y := by
  have hnd := hs.names.nodup; obtain ⟨i, hi, rfl⟩ := List.mem_iff_getElem.1 hx; obtain ⟨j, hj, rfl⟩ := List.mem_iff_getElem.1 hy; have := a7P hnd (i := i) (j := j) (by simpa using hi) (by simpa using hj) (by simpa using h); subst this; rfl
theorem c5t {s t : List Att} (hs : NF s) (ht : NF t) (h : ∀ n v, Has s n v ↔ Has t n v) : s = t := by
  have e1 : s.map (·.1) = t.map (·.1) := by
    refine b0o hs.names ht.names fun n => ?_
    constructor
    · intro hn; obtain ⟨x, hx, rfl⟩ := List.mem_map.1 hn; obtain ⟨v, hv⟩ := List.exists_mem_of_ne_nil _ (hs.ne x hx); obtain ⟨y, hy, e, _⟩ := (h x.1 v).1 ⟨x, hx, rfl, hv⟩; exact List.mem_map.2 ⟨y, hy, e⟩
    · intro hn; obtain ⟨x, hx, rfl⟩ := List.mem_map.1 hn; obtain ⟨v, hv⟩ := List.exists_mem_of_ne_nil _ (ht.ne x hx); obtain ⟨y, hy, e, _⟩ := (h x.1 v).2 ⟨x, hx, rfl, hv⟩; exact List.mem_map.2 ⟨y, hy, e⟩
  have hl : s.length = t.length := by simpa using congrArg List.length e1
  refine List.ext_getElem hl fun i h1 h2 => ?_
  have en : s[i].1 = t[i].1 := by
    have := List.getElem_of_eq e1 (i := i) (by simpa using h1); simpa using this
  refine Prod.ext en ?_; refine b0o (hs.vals _ (gmm h1)) (ht.vals _ (gmm h2)) fun v => ?_
  constructor
  · intro hv; obtain ⟨y, hy, e, hv⟩ := (h s[i].1 v).1 ⟨_, gmm h1, rfl, hv⟩; rw [← b9G ht hy (gmm h2) (e.trans en)]; exact hv
  · intro hv; obtain ⟨y, hy, e, hv⟩ := (h t[i].1 v).2 ⟨_, gmm h2, rfl, hv⟩; rw [← b9G hs hy (gmm h1) (e.trans en.symm)]; exact hv
theorem b7g {a b : List Att} (h : ∀ n v, b6L a n v ↔ b6L b n v) : O0 a = O0 b :=
  c5t (b2s a) (b2s b) fun n v => by rw [b0x, b0x, h]
end Go.Proofs.Tz
namespace Go.Proofs.Tz
open Go.Vw Go.RowKit Go.Proofs Go.Sort
structure a0V (K ss : List Str) (seen : List D) : Prop where
  eq : seen = ss.map .str
  nd : ss.Nodup
  sub : ∀ s ∈ ss, s ∈ K
theorem a0V.nil (K : List Str) : a0V K [] [] := ⟨rfl, List.nodup_nil, by simp⟩
theorem a0V.mem {K ss : List Str} {seen : List D} (h : a0V K ss seen) {s : Str} : D.str s ∈ seen ↔ s ∈ ss := by
  rw [h.eq]; simp
theorem a0V.next {K ss : List Str} {seen : List D} (h : a0V K ss seen) {s : Str} (hs : s ∈ K) (hn : D.str s ∉ seen) : a0V K (ss ++ [s]) (seen ++ [.str s]) := by
  rw [h.mem] at hn; refine ⟨by rw [h.eq]; simp, ?_, ?_⟩
  · rw [List.nodup_append]; refine ⟨h.nd, by simp, ?_⟩; intro a ha b hb; simp only [List.mem_singleton] at hb; subst hb; rintro rfl; exact hn ha
  · intro x hx; rcases List.mem_append.1 hx with hx | hx
    · exact h.sub x hx
    · simp only [List.mem_singleton] at hx; subst hx; exact hs
theorem a0V.le {K ss : List Str} {seen : List D} (h : a0V K ss seen) (hK : K.Nodup) : ss.length ≤ K.length := by
  have hp : ss.Perm (K.filter fun s => decide (s ∈ ss)) := (List.perm_ext_iff_of_nodup h.nd (hK.filter _)).2 fun s => by
    simp only [List.mem_filter, decide_eq_true_eq]; exact ⟨fun hs => ⟨h.sub s hs, hs⟩, fun hs => hs.2⟩
  rw [hp.length_eq]; exact List.length_filter_le _ _
theorem a0V.lt {K ss : List Str} {seen : List D} (h : a0V K ss seen) (hK : K.Nodup) {s : Str} (hs : s ∈ K) (hn : D.str s ∉ seen) : ss.length < K.length := by
  have := (h.next hs hn).le hK; simp only [List.length_append, List.length_singleton] at this; omega
theorem a0V.all {K ss : List Str} {seen : List D} (h : a0V K ss seen) (hK : K.Nodup) (ha : ∀ s ∈ K, D.str s ∈ seen) : ss.Perm K :=
  (List.perm_ext_iff_of_nodup h.nd hK).2 fun s => ⟨h.sub s, fun hs => h.mem.1 (ha s hs)⟩
theorem b5K {α : Type} (f : α → Bool) (l : List α) (x : α) : (l ++ [x]).filter f = l.filter f ++ (if f x = true then [x] else []) := by
  rw [List.filter_append]; by_cases h : f x = true <;> simp [h]
abbrev a0o := Str × Abt × D
def U3 (u1 : Value) (R1 : List Chg) (bs1 : List Nat) (c1 : Nat) (u2 : Value) (M : List a0o) (bs2 : List Nat) (c2 : Nat) : D :=
  .ref (.agg [.map u1 (R1.map B0) (R1.map fun _ => .bool true) bs1 c1, .map u2 (M.map fun x => .str x.1) (M.map fun x => x.2.2) bs2 c2])
structure MR (R : List Chg) (M : List a0o) : Prop where
  perm : List.Perm (M.map fun x => (x.1, x.2.1)) (S8 R)
  ab : ∀ x ∈ M, AbD x.2.1 x.2.2
theorem StD.open {R : List Chg} {d : D} (h : StD R d) : ∃ u1 R1 bs1 c1 u2 M bs2 c2, d = U3 u1 R1 bs1 c1 u2 M bs2 c2 ∧ List.Perm R1 R ∧ MR R M := by
  obtain ⟨u1, R1, bs1, c1, u2, bs2, c2, M, h1, h2, h3, h4⟩ := h; exact ⟨u1, R1, bs1, c1, u2, M, bs2, c2, h1, h2, h3, h4⟩
theorem MR.keys {R : List Chg} {M : List a0o} (h : MR R M) : List.Perm (M.map (·.1)) ((S8 R).map (·.1)) := by
  have := h.perm.map (·.1); simpa [Function.comp_def] using this
theorem MR.nodup {R : List Chg} {M : List a0o} (h : MR R M) : (M.map (·.1)).Nodup := h.keys.nodup_iff.2 (a3z R)
theorem MR.has {R : List Chg} {M : List a0o} (h : MR R M) {c : Chg} (hc : c ∈ R) : ∃ d, (idC c, abF R (idC c), d) ∈ M ∧ AbD (abF R (idC c)) d := by
  have : (idC c, abF R (idC c)) ∈ M.map fun x => (x.1, x.2.1) := h.perm.mem_iff.2 (a5v.2 ⟨⟨c, hc, rfl⟩, rfl⟩)
  obtain ⟨x, hx, e⟩ := List.mem_map.1 this; obtain ⟨i, a, d⟩ := x; simp only [Prod.mk.injEq] at e; obtain ⟨rfl, rfl⟩ := e; exact ⟨d, hx, h.ab _ hx⟩
def a8f (M : List a0o) : List (D × D) := M.map fun x => (D.str x.1, x.2.2)
theorem a5J (M : List a0o) : (M.map fun x => D.str x.1).zip (M.map fun x => x.2.2) = a8f M := by
  induction M with
  | nil => rfl
  | cons x M ih => simp only [List.map_cons, List.zip_cons_cons, ih, a8f]
theorem K5 (a b : Str) : G2 (.str a) (.str b) = decide (a = b) := rfl
theorem b9K {M : List a0o} (hn : (M.map (·.1)).Nodup) {id : Str} {a : Abt} {d : D} (h : (id, a, d) ∈ M) : L4 (a8f M) (.str id) = some d := by
  induction M with
  | nil => simp at h
  | cons x M ih =>
    rw [List.map_cons, List.nodup_cons] at hn; rcases List.mem_cons.1 h with rfl | h
    · simp [L4, a8f, K5]
    · have hne : ¬ x.1 = id := fun e => hn.1 (List.mem_map.2 ⟨_, h, e.symm⟩)
      have := ih hn.2 h; simp only [L4, a8f, List.map_cons, List.find?_cons, K5, decide_eq_false hne] at this ⊢; exact this
theorem a2q (u1 : Value) (R1 : List Chg) (bs1 : List Nat) (c1 : Nat) (u2 : Value) (M : List a0o) (bs2 : List Nat) (c2 : Nat) : Ctr prog 39 [.d (U3 u1 R1 bs1 c1 u2 M bs2 c2)] (.d (.bool true)) := by
  refine fv (fun _ => false) func39 (by kernel_rfl) rfl rfl rfl rfl rfl ?_; simp -implicitDefEqProofs [U3]
def a2K (a : Abt) : Bool := a.cr && !a.rm
def a2z (R : List Chg) : List Str := ((S8 R).filter fun p => a2K p.2).map (·.1)
def A8 (R : List Chg) : List Str := I4 (a2z R)
def Z0 (M : List a0o) (s : Str) : Bool := M.any fun x => decide (x.1 = s) && a2K x.2.1
theorem a9Y {l m : List Str} (h : l.Perm m) : I4 l = I4 m := by
  unfold I4; refine List.Perm.eq_of_pairwise (le := fun x y => decide (x ≤ y) = true) (fun a b _ _ x y => List.le_antisymm (by simpa using x) (by simpa using y)) ?_ ?_ ((List.mergeSort_perm _ _).trans (h.trans (List.mergeSort_perm _ _).symm))
  · exact List.pairwise_mergeSort (fun a b c h1 h2 => by simp at h1 h2 ⊢; exact List.le_trans h1 h2) (fun a b => by simp; exact List.le_total a b) _
  · exact List.pairwise_mergeSort (fun a b c h1 h2 => by simp at h1 h2 ⊢; exact List.le_trans h1 h2) (fun a b => by simp; exact List.le_total a b) _
theorem b3Q {M : List a0o} (hn : (M.map (·.1)).Nodup) {x : a0o} (hx : x ∈ M) : Z0 M x.1 = a2K x.2.1 := by
  unfold Z0; cases h : a2K x.2.1 with
  | true => exact List.any_eq_true.2 ⟨x, hx, by simp [h]⟩
  | false =>
    rw [List.any_eq_false]; intro y hy e; simp only [Bool.and_eq_true, decide_eq_true_eq] at e; have : y = x := by
      obtain ⟨i, hi, e1⟩ := List.getElem_of_mem hy; obtain ⟨j, hj, e2⟩ := List.getElem_of_mem hx; have := a7P hn (i := i) (j := j) (by simpa using hi) (by simpa using hj) (by simp [e1, e2, e.1]); subst this; rw [← e1, ← e2]
    rw [this, h] at e; simp at e
theorem c0g {R : List Chg} {M : List a0o} (h : MR R M) : ((M.map (·.1)).filter (Z0 M)).Perm (a2z R) := by
  have h1 : (M.map (·.1)).filter (Z0 M) = ((M.map fun x => (x.1, x.2.1)).filter fun p => a2K p.2).map (·.1) := by
    have : ∀ N : List a0o, (∀ x ∈ N, x ∈ M) → (N.map (·.1)).filter (Z0 M) = ((N.map fun x => (x.1, x.2.1)).filter fun p => a2K p.2).map (·.1) := by
      intro N
      induction N with
      | nil => intro _; rfl
      | cons x N ih =>
        intro hN; have e := b3Q h.nodup (hN x (by simp)); rw [List.map_cons, List.filter_cons, List.map_cons, List.filter_cons, e, ih (fun y hy => hN y (by simp [hy]))]; by_cases hb : a2K x.2.1 = true <;> simp [hb]
    exact this M fun _ h => h
  rw [h1]; exact (h.perm.filter _).map _
theorem c2F {M : List a0o} {k v : D} (h : (k, v) ∈ a8f M) : ∃ x ∈ M, k = .str x.1 ∧ v = x.2.2 := by
  obtain ⟨x, hx, e⟩ := List.mem_map.1 h; simp only [Prod.mk.injEq] at e; exact ⟨x, hx, e.1.symm, e.2.symm⟩
theorem c2p {M : List a0o} {seen : List D} (h : ∀ p ∈ a8f M, p.1 ∈ seen) : ∀ s ∈ M.map (·.1), D.str s ∈ seen := by
  intro s hs; obtain ⟨x, hx, rfl⟩ := List.mem_map.1 hs; exact h (.str x.1, x.2.2) (List.mem_map.2 ⟨x, hx, rfl⟩)
theorem b0I (M : List a0o) : ∀ k ∈ M.map (fun x => D.str x.1), G2 k k = true := by
  intro k hk; obtain ⟨x, _, rfl⟩ := List.mem_map.1 hk; simp [K5]
def LvI (sd : D) (u2 : Value) (M : List a0o) (bs2 : List Nat) (c2 : Nat) (k : Nat) (τ : St) : Prop := ∃ ss seen, a0V (M.map (·.1)) ss seen ∧ ss.length = k ∧ τ 0 = .d sd ∧ τ 3 = .own true 9 ((ss.filter (Z0 M)).map .str) ∧
  τ 12 = .d (.map u2 (M.map fun x => .str x.1) (M.map fun x => x.2.2) bs2 c2) ∧ τ 13 = .mit u2 ((M.map fun x => D.str x.1).zip bs2, c2) seen
theorem a3J (R : List Chg) (d : D) (hd : StD R d) (hl : (S8 R).length < 100000) : Ctr prog 27 [.d d] (.own true 9 ((A8 R).map .str)) := by
  obtain ⟨u1, R1, bs1, c1, u2, M, bs2, c2, rfl, hR1, hM⟩ := hd.open; have hml : M.length < 100000 := by have := hM.perm.length_eq; simp at this; omega
  have hlive : I4 ((M.map (·.1)).filter (Z0 M)) = A8 R := a9Y (c0g hM); rw [← hlive]; refine fv (fun i => i == 2 || i == 3 || i == 33 || i == 3000035) func27 (by kernel_rfl) rfl rfl rfl rfl rfl ?_; simp -implicitDefEqProofs; refine A1 (a2q u1 R1 bs1 c1 u2 M bs2 c2) ?_; simp -implicitDefEqProofs [U3]; obtain ⟨sd, hsd⟩ : ∃ sd, U3 u1 R1 bs1 c1 u2 M bs2 c2 = sd := ⟨_, rfl⟩; refine H2 M.length (LvI sd u2 M bs2 c2) ⟨[], [], a0V.nil _, rfl, by simp [← hsd, U3], by simp, by simp, by simp⟩ ?_; rintro k τ hk ⟨ss, seen, hS, hsl, g0, g3, g12, g13⟩; have hfs : ∀ s, (ss ++ [s]).filter (Z0 M) = _ := b5K (Z0 M) ss; have hll : (ss.filter (Z0 M)).length ≤ M.length := by
    have h1 := List.length_filter_le (Z0 M) ss; have h2 := hS.le hM.nodup; simp only [List.length_map] at h2; omega
  simp -implicitDefEqProofs [g0, g3, g12, g13]; refine c4R (vs := M.map fun x => x.2.2) 12 (by simp [g12]) (b0I M) (fun x v hm hn => ?_) (fun hall => ?_)
  · rw [a5J] at hm; obtain ⟨x, hx, rfl, rfl⟩ := c2F hm; have hin : x.1 ∈ M.map (·.1) := List.mem_map.2 ⟨x, hx, rfl⟩; have hS2 := hS.next hin hn; have hlt := hS.lt hM.nodup hin hn; rw [hsl, List.length_map] at hlt; have hlv := b3Q hM.nodup hx; have hfx := hfs x.1; rw [hlv] at hfx; obtain ⟨u, V, bs, clk, hd1, hV⟩ := hM.ab x hx; rw [← a5J] at hm; simp -implicitDefEqProofs [g0, g3, g12, g13]; refine c4z (vs := M.map fun x => x.2.2) 12 (by simp [g12]) (b0I M) hm ?_; rw [hd1]; generalize hT2 : (ss ++ [x.1]).filter (Z0 M) = T2 at *; generalize hT : ss.filter (Z0 M) = T at *; have hli : a2K x.2.1 = (x.2.1.cr && !x.2.1.rm) := rfl; cases hcr : x.2.1.cr <;> cases hrm : x.2.1.rm <;> rw [hcr, hrm] at hli <;> simp only [hli] at hfx <;> simp at hfx
    all_goals simp -implicitDefEqProofs [g0, g3, g12, g13, P5, hcr, hrm]
    all_goals first
      | (refine D7 hlt ⟨ss ++ [x.1], seen ++ [.str x.1], hS2, by simp [hsl], by simp [g0], by simp [g3, hT2, hfx], by simp [g12], by simp⟩; done)
      | (repeat refine ai (by omega) ?_
         exact D7 hlt ⟨ss ++ [x.1], seen ++ [.str x.1], hS2, by simp [hsl], by simp [g0], by simp [hT2, hfx], by simp [g12], by simp⟩)
  · rw [a5J] at hall; have hp := (hS.all hM.nodup (c2p hall)).filter (Z0 M); have c1 := b1F (ss.filter (Z0 M)) (by omega); rw [a9Y hp] at c1; generalize ss.filter (Z0 M) = T at *; generalize I4 ((M.map (·.1)).filter (Z0 M)) = T2 at *; simp -implicitDefEqProofs [g0, g3, g12, g13]; refine b7V c1 ?_; simp -implicitDefEqProofs [g0, g3, g12, g13]
def K4 (R : List Chg) (id : Str) : Str := nmC (abF R id).nm
abbrev SM := List (Str × Str)
def N9 (m : SM) : List (D × D) := m.map fun p => (D.str p.1, D.str p.2)
def I1 (m : SM) (k : Str) : Option Str := (m.find? fun p => decide (p.1 = k)).map (·.2)
def N8 (R : List Chg) (l : List Str) : SM := l.foldl (fun m id => if (I1 m (K4 R id)).isSome then m else m ++ [(K4 R id, id)]) []
theorem a8e (R : List Chg) (l : List Str) (id : Str) : N8 R (l ++ [id]) = if (I1 (N8 R l) (K4 R id)).isSome then N8 R l else N8 R l ++ [(K4 R id, id)] := by unfold N8; rw [List.foldl_append]; rfl
theorem a2T (m : SM) (k : Str) : L4 (N9 m) (.str k) = (I1 m k).map .str := by
  induction m with
  | nil => rfl
  | cons p m ih =>
    simp only [L4, N9, I1, List.map_cons, List.find?_cons, K5] at ih ⊢; by_cases h : p.1 = k
    · simp [h]
    · simp only [decide_eq_false h]; exact ih
theorem a6E {m : SM} {k v : Str} (h : I1 m k = none) : R8 (N9 m) (.str k) (.str v) = N9 (m ++ [(k, v)]) := by
  have : (N9 m).any (fun p => G2 p.1 (.str k)) = false := by
    rw [List.any_eq_false]; intro p hp; obtain ⟨q, hq, rfl⟩ := List.mem_map.1 hp; simp only [I1, Option.map_eq_none_iff, List.find?_eq_none] at h; simpa [K5] using h q hq
  unfold R8; rw [this]; simp [N9]
theorem A7 (c : Csn) : B3 (B8 c) = 3 := rfl
theorem F7 (s : Str) : E0 prog 9 (.str s) = true := rfl
theorem a4u (M : List a0o) : ∀ k ∈ M.map (fun x => D.str x.1), E0 prog 9 k = true := by
  intro k hk; obtain ⟨x, _, rfl⟩ := List.mem_map.1 hk; exact F7 _
theorem a3y : Program.underlying prog 63 = some (.map 9 75) := by kernel_rfl
theorem X3 : Program.underlying prog 80 = some (.map 9 9) := by kernel_rfl
theorem b2A {R : List Chg} {id : Str} : id ∈ A8 R ↔ (∃ c ∈ R, idC c = id) ∧ a2K (abF R id) = true := by
  unfold A8 a2z; rw [b1Q, List.mem_map]; constructor
  · rintro ⟨p, hp, rfl⟩; obtain ⟨h1, h2⟩ := List.mem_filter.1 hp; obtain ⟨h3, h4⟩ := a5v.1 h1; exact ⟨h3, by rw [← h4]; exact h2⟩
  · rintro ⟨h1, h2⟩; exact ⟨(id, abF R id), List.mem_filter.2 ⟨a5v.2 ⟨h1, rfl⟩, h2⟩, rfl⟩
theorem a0u (R : List Chg) : (A8 R).length ≤ (S8 R).length := by
  unfold A8 a2z I4; rw [List.length_mergeSort, List.length_map]; exact List.length_filter_le _ _
theorem MR.live {R : List Chg} {M : List a0o} (h : MR R M) {id : Str} (hid : id ∈ A8 R) : ∃ d, L4 (a8f M) (.str id) = some d ∧ AbD (abF R id) d := by
  obtain ⟨⟨c, hc, rfl⟩, _⟩ := b2A.1 hid; obtain ⟨d, h1, h2⟩ := h.has hc; exact ⟨d, b9K h.nodup h1, h2⟩
def OwI (R : List Chg) (sd : D) (g : Nat) (k : Nat) (τ : St) : Prop := τ 0 = .d sd ∧ τ 3 = .d (.raw (.map (some g))) ∧ τ 11 = .own false 9 ((A8 R).map .str) ∧ τ 12 = .d (.int .i64 (A8 R).length) ∧ τ 13 = .d (.int .i64 k) ∧
  τ 1000000 = .hm (.map (some g)) 9 (N9 (N8 R ((A8 R).take k))) none
theorem b2m (R : List Chg) (d : D) (hd : StD R d) (hl : (S8 R).length < 100000) : G8 prog 63 [.d d] [] (fun r hs' => ∃ g, r = .d (.raw (.map (some g))) ∧ hs' = [.hm (.map (some g)) 9 (N9 (N8 R (A8 R))) none]) := by
  obtain ⟨u1, R1, bs1, c1, u2, M, bs2, c2, rfl, hR1, hM⟩ := hd.open; have hll := a0u R; have hlv := a3J R _ hd hl; refine a1l (fun _ => false) (by kernel_rfl) func63 (by kernel_rfl) rfl rfl (nbl rfl) (by kernel_rfl) rfl ?_; simp -implicitDefEqProofs [A5]; refine b0U 9 1000000 (by simp [A5]) (fun g => ?_); simp -implicitDefEqProofs [A5]; refine A1 hlv ?_; simp -implicitDefEqProofs [A5]; obtain ⟨sd, hsd⟩ : ∃ sd, U3 u1 R1 bs1 c1 u2 M bs2 c2 = sd := ⟨_, rfl⟩; refine H2 (A8 R).length (OwI R sd g) ⟨by simp [A5, ← hsd], by simp [A5], by simp [A5], by simp [A5], by simp [A5], by simp [A5, N8, N9]⟩ ?_; rintro k τ hk ⟨g0, g3, g11, g12, g13, gA⟩; by_cases hlt : k < (A8 R).length
  · have hlt' : (k : Int) < (A8 R).length := (by omega); obtain ⟨id, hid⟩ : ∃ id, (A8 R)[k] = id := ⟨_, rfl⟩; have hin : id ∈ A8 R := by rw [← hid]; exact gmm _
    obtain ⟨d, hg1, hab⟩ := hM.live hin; obtain ⟨u, V, bs, clk, hd1, hV⟩ := hab; have htk : (A8 R).take (k + 1) = (A8 R).take k ++ [id] := by rw [J0 hlt, hid]
    have hsn := a8e R ((A8 R).take k) id; rw [← htk] at hsn; have chg_eq : B0 (abF R id).nm = .agg [B8 (abF R id).nm.1, .int .i64 (abF R id).nm.2.1, .str (abF R id).nm.2.2.1, .str (K4 R id), .str (abF R id).nm.2.2.2.2.1, .str (abF R id).nm.2.2.2.2.2] := rfl; have hmg := a2T (N8 R ((A8 R).take k)) (K4 R id); rw [← a5J] at hg1; rw [hd1] at hg1; simp -implicitDefEqProofs [g0, g3, g11, g12, g13, ← hsd, U3, hlt, hlt', hid]; refine Z4 a3y (F7 _) (a4u M) Tryz.zd_75 hg1 ?_; simp -implicitDefEqProofs [g0, g3, g11, g12, g13, P5, chg_eq, A7]; cases hs : I1 (N8 R ((A8 R).take k)) (K4 R id) with
    | some v =>
      rw [hs] at hsn hmg; simp at hsn; refine a0R (m := N9 (N8 R ((A8 R).take k))) (E := none) 1000000 (by omega) X3 (by simp [gA]) (F7 _) Tryz.zd_9 hmg ?_; simp -implicitDefEqProofs [g0, g3, g11, g12, g13, hlt]; (repeat refine ai (by omega) ?_); exact D7 hlt ⟨by simp [g0, ← hsd, U3], by simp [g3], by simp [g11], by simp [g12], by simp, by simp [gA, hsn]⟩
    | none =>
      rw [hs] at hsn hmg; simp at hsn; refine a0R (m := N9 (N8 R ((A8 R).take k))) (E := none) 1000000 (by omega) X3 (by simp [gA]) (F7 _) Tryz.zd_9 hmg ?_; simp -implicitDefEqProofs [g0, g3, g11, g12, g13, hlt]; refine a5A (m := N9 (N8 R ((A8 R).take k))) (E := none) 1000000 X3 (by simp [gA]) (F7 _) _ (List.Perm.refl _) ?_; rw [a6E hs]; simp -implicitDefEqProofs [g0, g3, g11, g12, g13, hlt]; (repeat refine ai (by omega) ?_); exact D7 hlt ⟨by simp [g0, ← hsd, U3], by simp [g3], by simp [g11], by simp [g12], by simp, by simp [hsn]⟩
  · have hlt' : ¬ (k : Int) < (A8 R).length := (by omega); rw [ttl (by omega)] at gA; simp -implicitDefEqProofs [g0, g3, g11, g12, g13, hlt, hlt']; exact ⟨_, [1000000], by simp, by simp [gA, isH], by simp [a1y], g, rfl, by simp [gA]⟩
theorem b4J (a b : Chg) (ha : S4 a) (hb : S4 b) : Ctr prog 81 [.d (B0 a), .d (B0 b)] (.d (B0 (S2 a b))) := by
  have c1 := b6k a ha; have c2 := b6k b hb; have c3 := c3O a.1 b.1; have c4 := a6H (N6 a).1 (N6 b).1; have c5 := a5y [a3g a.1 b.1, a0B (N6 a).1 (N6 b).1] (by simp); have hlt : ltM a b = decide (orI [a3g a.1 b.1, a0B (N6 a).1 (N6 b).1] < 0) := rfl; have hla : S2 a b = if opC a = 0 ∨ (opC b ≠ 0 ∧ ltM a b = true) then b else a := rfl
  simp only [a1X, List.map_cons, List.map_nil] at c5; obtain ⟨la, hla1⟩ : ∃ la, (N6 a).1 = la := ⟨_, rfl⟩; obtain ⟨lb, hlb1⟩ : ∃ lb, (N6 b).1 = lb := ⟨_, rfl⟩; obtain ⟨ea, hea⟩ : ∃ ea, (N6 a).2 = ea := ⟨_, rfl⟩; obtain ⟨eb, heb⟩ : ∃ eb, (N6 b).2 = eb := ⟨_, rfl⟩; obtain ⟨o, ho⟩ : ∃ o, orI [a3g a.1 b.1, a0B (N6 a).1 (N6 b).1] = o := ⟨_, rfl⟩; obtain ⟨x1, hx1⟩ : ∃ x, a3g a.1 b.1 = x := ⟨_, rfl⟩; obtain ⟨x2, hx2⟩ : ∃ x, a0B (N6 a).1 (N6 b).1 = x := ⟨_, rfl⟩; rw [ho] at c5 hlt; rw [hx2] at c4 c5; rw [hx1] at c3 c5; rw [hla1] at c1 c4; rw [hlb1] at c2 c4; rw [hea] at c1; rw [heb] at c2; have ea_eq : B0 a = .agg [B8 a.1, .int .i64 (opC a), .str a.2.2.1, .str a.2.2.2.1, .str a.2.2.2.2.1, .str a.2.2.2.2.2] := rfl; have eb_eq : B0 b = .agg [B8 b.1, .int .i64 (opC b), .str b.2.2.1, .str b.2.2.2.1, .str b.2.2.2.2.1, .str b.2.2.2.2.2] := rfl; generalize hR : S2 a b = R at *; refine H1 (rv := .cell 4 35) (rs := []) (r := .d (B0 R)) (ys := []) (fun i => false) (by kernel_rfl) func81 (by kernel_rfl) rfl rfl (by simp) (nbl rfl) (by kernel_rfl) rfl rfl ?_; rw [ea_eq] at c1 ⊢; rw [eb_eq] at c2 ⊢; rcases Classical.em (opC a = 0) with h1 | h1
  · rw [if_pos (.inl h1)] at hla; subst hla; rw [eb_eq]; rw [h1] at c1; simp -implicitDefEqProofs [A7, h1]; refine A1 c1 ?_; simp -implicitDefEqProofs [A7, h1]; refine A1 c2 ?_; simp -implicitDefEqProofs [A7, h1]
  · rcases Classical.em (opC b = 0) with h2 | h2
    · rw [if_neg (by simp [h1, h2])] at hla; subst hla; rw [ea_eq]; rw [h2] at c2; simp -implicitDefEqProofs [A7, h1, h2]; refine A1 c1 ?_; simp -implicitDefEqProofs [A7, h1, h2]; refine A1 c2 ?_; simp -implicitDefEqProofs [A7, h1, h2]
    · rcases Classical.em (o < 0) with h3 | h3
      · rw [if_pos (.inr ⟨h2, by simp [hlt, h3]⟩)] at hla; subst hla; rw [eb_eq]; simp -implicitDefEqProofs [A7, h1, h2]; refine A1 c1 ?_; simp -implicitDefEqProofs [A7, h1, h2]; refine A1 c2 ?_; simp -implicitDefEqProofs [A7, h1, h2]; refine ⟨rfl, rfl, A1 c3 ?_⟩; simp -implicitDefEqProofs [A7, h1, h2]; refine A1 c4 ?_; simp -implicitDefEqProofs [A7, h1, h2]; refine ⟨by decide, A1 c5 ?_⟩; simp -implicitDefEqProofs [A7, h1, h2, h3]
      · rw [if_neg (by simp [h1, hlt, h3])] at hla; subst hla; rw [ea_eq]; simp -implicitDefEqProofs [A7, h1, h2]; refine A1 c1 ?_; simp -implicitDefEqProofs [A7, h1, h2]; refine A1 c2 ?_; simp -implicitDefEqProofs [A7, h1, h2]; refine ⟨rfl, rfl, A1 c3 ?_⟩; simp -implicitDefEqProofs [A7, h1, h2]; refine A1 c4 ?_; simp -implicitDefEqProofs [A7, h1, h2]; refine ⟨by decide, A1 c5 ?_⟩; simp -implicitDefEqProofs [A7, h1, h2, h3]
def abH (b v : Nat) (a : Abt) : List AV := [.hb (va b) 78 (P5 a (.raw (.map (some v)))), .hm (.map (some v)) 101 (vsM a.vs) none]
theorem b2U (k : VK) : E0 prog 101 (.agg [.str k.1, .str k.2]) = true := by simp [E0]
theorem c2P : Program.underlying prog 76 = some (.map 101 35) := by kernel_rfl
structure b5f (a : Abt) : Prop where
  nm : S4 a.nm
  vs : ∀ k, S4 (a0O a.vs k)
theorem a6S (a b : VK) : G2 (vkD a) (vkD b) = decide (a = b) := by
  obtain ⟨a1, a2⟩ := a; obtain ⟨b1, b2⟩ := b; simp [vkD, G2, V4, X6]
theorem c2L (vs : List (VK × Chg)) (k : VK) : L4 (vsM vs) (vkD k) = (a5I vs k).map B0 := by
  induction vs with
  | nil => rfl
  | cons p m ih =>
    simp only [L4, vsM, a5I, List.map_cons, List.find?_cons, a6S] at ih ⊢; by_cases h : p.1 = k
    · simp [h]
    · simp only [decide_eq_false h]; exact ih
theorem c1n (vs : List (VK × Chg)) (k : VK) (c : Chg) : R8 (vsM vs) (vkD k) (B0 c) = vsM (a4S vs k c) := by
  have e : (vsM vs).any (fun p => G2 p.1 (vkD k)) = vs.any fun p => decide (p.1 = k) := by
    simp only [vsM, List.any_map, Function.comp_def, a6S]
  unfold R8 a4S; rw [e]; split
  · simp only [vsM, List.map_map]; refine List.map_congr_left fun p _ => ?_
    simp only [Function.comp_apply, a6S, decide_eq_true_eq]; split <;> rfl
  · simp [vsM]
theorem b6q (b v : Nat) (a : Abt) (c : Chg) (ha : b5f a) (hc : S4 c) : G8 prog 40 [.d (.raw (va b)), .d (B0 c)] (abH b v a) (fun r hs' => r = .tup [] ∧ hs' = abH b v (Q7 a c)) := by
  have c1 := b4J a.nm c ha.nm hc; have c2 := b4J (a0O a.vs (a1t c)) c (ha.vs _) hc; have hmg := c2L a.vs (a1t c); have hms := c1n a.vs (a1t c) (S2 (a0O a.vs (a1t c)) c); have ec_eq : B0 c = .agg [B8 c.1, .int .i64 (opC c), .str c.2.2.1, .str c.2.2.2.1, .str c.2.2.2.2.1, .str c.2.2.2.2.2] := rfl; have hta : Q7 a c = if opC c = 1 then { a with cr := true, nm := S2 a.nm c }
  else if opC c = 3 then { a with nm := S2 a.nm c }
  else if opC c = 2 then { a with rm := true }
  else { a with vs := a4S a.vs (a1t c) (S2 (a0O a.vs (a1t c)) c) } := rfl
  generalize Q7 a c = A2 at *; obtain ⟨cr, rm, nm, vs⟩ := a; simp only at c1 c2 hmg hms hta; refine a2G (rs := []) (fun i => false) (by kernel_rfl) func40 (by kernel_rfl) rfl rfl (by simp) (nbl rfl) (by kernel_rfl) rfl ?_; have chg_w : ∀ x : Chg, B3 (B0 x) = 8 := fun _ => rfl
  rcases Classical.em (opC c = 1) with h1 | h1
  · rw [if_pos h1] at hta; subst hta; rw [ec_eq, h1] at c1 ⊢; generalize S2 nm c = N2 at *; simp -implicitDefEqProofs [A5, abH, P5, A7]; refine O9 (e := 78) (ds := [.bool cr, .bool rm, B0 nm, .raw (.map (some v))]) 1000000 (by simp [A5, abH, P5]) (by omega) (by simp) (by kernel_rfl) ?_; simp -implicitDefEqProofs [A5, chg_w, A7]; refine O9 (e := 78) (ds := [.bool true, .bool rm, B0 nm, .raw (.map (some v))]) 1000000 (by simp [A5, abH, P5]) (by omega) (by simp) (by kernel_rfl) ?_; simp -implicitDefEqProofs [A5, chg_w, A7]; refine ⟨rfl, F0 c1 ?_⟩; simp -implicitDefEqProofs [A5, chg_w, A7]; refine O9 (e := 78) (ds := [.bool true, .bool rm, B0 nm, .raw (.map (some v))]) 1000000 (by simp [A5, abH, P5]) (by omega) (by simp) (by kernel_rfl) ?_; simp -implicitDefEqProofs [A5, chg_w, A7]; exact ⟨[], [1000000, 1000001], by simp, by simp [A5, isH], by simp [V7], rfl, by simp [A5]⟩
  · rw [if_neg h1] at hta; rcases Classical.em (opC c = 3) with h3 | h3
    · rw [if_pos h3] at hta; subst hta; rw [ec_eq, h3] at c1 ⊢; generalize S2 nm c = N2 at *; simp -implicitDefEqProofs [A5, abH, P5, A7]; refine O9 (e := 78) (ds := [.bool cr, .bool rm, B0 nm, .raw (.map (some v))]) 1000000 (by simp [A5, abH, P5]) (by omega) (by simp) (by kernel_rfl) ?_; simp -implicitDefEqProofs [A5, chg_w, A7]; refine ⟨rfl, F0 c1 ?_⟩; simp -implicitDefEqProofs [A5, chg_w, A7]; refine O9 (e := 78) (ds := [.bool cr, .bool rm, B0 nm, .raw (.map (some v))]) 1000000 (by simp [A5, abH, P5]) (by omega) (by simp) (by kernel_rfl) ?_; simp -implicitDefEqProofs [A5, chg_w, A7]; exact ⟨[], [1000000, 1000001], by simp, by simp [A5, isH], by simp [V7], rfl, by simp [A5]⟩
    · rw [if_neg h3] at hta; rcases Classical.em (opC c = 2) with h2 | h2
      · rw [if_pos h2] at hta; subst hta; rw [ec_eq, h2] at c1 ⊢; simp -implicitDefEqProofs [A5, abH, P5, A7]; refine O9 (e := 78) (ds := [.bool cr, .bool rm, B0 nm, .raw (.map (some v))]) 1000000 (by simp [A5, abH, P5]) (by omega) (by simp) (by kernel_rfl) ?_; simp -implicitDefEqProofs [A5, chg_w, A7]; exact ⟨[], [1000000, 1000001], by simp, by simp [A5, isH], by simp [V7], rfl, by simp [A5]⟩
      · rw [if_neg h2] at hta; subst hta; have vk_eq : vkD (a1t c) = .agg [.str c.2.2.2.2.1, .str c.2.2.2.2.2] := rfl; have hlk : a0j false (.agg [.agg [.int .i64 0, .int .i64 0, .int .i64 0], .int .i64 0, .str [], .str [], .str [], .str []]) (Option.map B0 (a5I vs (a1t c))) = .d (B0 (a0O vs (a1t c))) := by
          unfold a0O; cases a5I vs (a1t c) <;> rfl
        rw [ec_eq] at c2 ⊢; rw [vk_eq] at hmg; simp -implicitDefEqProofs [A5, abH, P5, A7, h1, h2, h3]; refine O9 (e := 78) (ds := [.bool cr, .bool rm, B0 nm, .raw (.map (some v))]) 1000000 (by simp [A5, abH, P5]) (by omega) (by simp) (by kernel_rfl) ?_; simp -implicitDefEqProofs [A5, chg_w, A7]; refine O9 (e := 78) (ds := [.bool cr, .bool rm, B0 nm, .raw (.map (some v))]) 1000000 (by simp [A5, abH, P5]) (by omega) (by simp) (by kernel_rfl) ?_; simp -implicitDefEqProofs [A5, chg_w, A7]; refine a0R (m := vsM vs) (E := none) 1000001 (by omega) c2P (by simp [A5]) (b2U _) Tryz.zd_35 hmg ?_; rw [hlk]; simp -implicitDefEqProofs [A5, chg_w, A7]; refine F0 c2 ?_; simp -implicitDefEqProofs [A5, chg_w, A7]; refine a5A (m := vsM vs) (E := none) 1000001 c2P (by simp [A5]) (b2U _) _ (List.Perm.refl _) ?_; rw [← vk_eq, hms]; simp -implicitDefEqProofs [A5, chg_w, A7]; exact ⟨[], [1000000, 1000001], by simp, by simp [A5, isH], by simp [V7], rfl, by simp [A5]⟩
theorem b2p (a b : Chg) : G2 (B0 a) (B0 b) = decide (a = b) := by
  obtain ⟨⟨a1, a2, a3⟩, a4, a5, a6, a7, a8⟩ := a; obtain ⟨⟨b1, b2, b3⟩, b4, b5, b6, b7, b8⟩ := b; simp only [B0, B8, G2, V4, X6, Prod.mk.injEq, Bool.decide_and, Bool.and_true]; simp [Bool.and_assoc, a0r, X6]
theorem a7Z (R : List Chg) (c : Chg) : L4 (R9 R) (B0 c) = if c ∈ R then some (.bool true) else none := by
  induction R with
  | nil => rfl
  | cons x R ih =>
    simp only [L4, R9, List.map_cons, List.find?_cons, b2p] at ih ⊢; by_cases h : x = c
    · simp [h]
    · simp only [decide_eq_false h]; rw [ih]; have : ¬ c = x := fun e => h e.symm
      simp [this]
theorem b2F {R : List Chg} {c : Chg} (h : c ∉ R) : R8 (R9 R) (B0 c) (.bool true) = R9 (R ++ [c]) := by
  unfold R8; rw [if_neg (by
    simp only [R9, List.any_map, List.any_eq_true, Function.comp_apply, b2p, decide_eq_true_eq, not_exists, not_and]; rintro x hx rfl; exact h hx)]
  simp [R9]
theorem a6s (c : Chg) : E0 prog 35 (B0 c) = true := by
  obtain ⟨⟨a1, a2, a3⟩, a4, a5, a6, a7, a8⟩ := c; simp [E0, B0, B8]
theorem a3u : Program.underlying prog 62 = some (.map 35 4) := by kernel_rfl
theorem b1D {E : List X9} {id : Str} (h : ∀ e ∈ E, e.1 ≠ id) : L4 (S9 E) (.str id) = none := by
  induction E with
  | nil => rfl
  | cons x E ih =>
    have := ih fun e he => h e (by simp [he])
    simp only [L4, S9, List.map_cons, List.find?_cons, K5] at this ⊢; simp only [decide_eq_false (h x (by simp))]; exact this
theorem b1A {E : List X9} (hn : (E.map (·.1)).Nodup) {e : X9} (he : e ∈ E) : L4 (S9 E) (.str e.1) = some (.raw (va e.2.2.1)) := by
  induction E with
  | nil => simp at he
  | cons x E ih =>
    rw [List.map_cons, List.nodup_cons] at hn; rcases List.mem_cons.1 he with rfl | he
    · simp [L4, S9, K5]
    · have hne : ¬ x.1 = e.1 := fun q => hn.1 (List.mem_map.2 ⟨_, he, q.symm⟩)
      have := ih hn.2 he; simp only [L4, S9, List.map_cons, List.find?_cons, K5, decide_eq_false hne] at this ⊢; exact this
theorem b2S {E : List X9} {id : Str} {a : Abt} {b v : Nat} (h : ∀ e ∈ E, e.1 ≠ id) : R8 (S9 E) (.str id) (.raw (va b)) = S9 (E ++ [(id, a, b, v)]) := by
  unfold R8; rw [if_neg (by
    simp only [S9, List.any_map, List.any_eq_true, Function.comp_apply, K5, decide_eq_true_eq, not_exists, not_and]; exact h)]
  simp [S9]
def W1 (R : List Chg) (c : Chg) : Int := if Q4 c ≠ 0 then Q4 c else if c ∈ R then 0 else if 4096 ≤ R.length then 3 else 0
def Y1 (R : List Chg) (c : Chg) : List Chg := if Q4 c = 0 ∧ c ∉ R ∧ R.length < 4096 then R ++ [c] else R
def stD (r m : Nat) : D := .agg [.raw (.map (some r)), .raw (.map (some m))]
theorem a7a (s r m : Nat) : G8 prog 39 [.d (.raw (va s))] [.hb (va s) 65 (stD r m)] (fun x hs' => x = .d (.bool true) ∧ hs' = [.hb (va s) 65 (stD r m)]) := by
  refine a1l (fun _ => false) (by kernel_rfl) func39 (by kernel_rfl) rfl rfl (nbl rfl) (by kernel_rfl) rfl ?_; simp -implicitDefEqProofs [A5, stD]; refine O9 (e := 65) (ds := [.raw (.map (some r)), .raw (.map (some m))]) 1000000 (by simp [A5]) (by omega) (by simp) (by kernel_rfl) ?_; simp -implicitDefEqProofs [A5]; exact ⟨.d (.bool true), [1000000], by simp, by simp [A5, isH], by simp [a1y], by simp, by simp [A5]⟩
theorem b9D (s r m : Nat) (R : List Chg) (E : List X9) (c : Chg) (hc : S4 c) (h : Q4 c ≠ 0 ∨ c ∈ R ∨ 4096 ≤ R.length) :
    G8 prog 13 [.d (.raw (va s)), .d (B0 c)] (U0 s r m R E) (fun x hs' => x = .d (.int .i64 (W1 R c)) ∧ hs' = U0 s r m R E) := by
  have c1 := a7a s r m; have c2 := a8p c hc; have hmg := a7Z R c; have ec_eq : B0 c = .agg [B8 c.1, .int .i64 (opC c), .str c.2.2.1, .str c.2.2.2.1, .str c.2.2.2.2.1, .str c.2.2.2.2.2] := rfl; have hkf := a6s c; simp only [stD] at c1; refine a4X (fun i => i == 5000007 || i == 5000056 || i == 21000012 || i == 1000047) (by kernel_rfl) func13 (by kernel_rfl) rfl rfl (nbl rfl) (by kernel_rfl) rfl ?_; rw [ec_eq] at c2 hkf hmg ⊢; have hlr : (R9 R).length = R.length := (by simp [R9]); rcases Classical.em (Q4 c = 0) with h0 | h0
  · rw [h0] at c2; rcases Classical.em (c ∈ R) with h1 | h1
    · have he : W1 R c = 0 := (by simp [W1, h0, h1]); rw [if_pos h1] at hmg; rw [he]; simp -implicitDefEqProofs [A5, U0, A7]; refine M2 [1000000] 1000000 c1 (by simp [A5, U0]) rfl (by simp) ?_; rintro x hs' ⟨rfl, rfl⟩; simp -implicitDefEqProofs [A5, D1, C0, A7]; refine A1 c2 ?_; simp -implicitDefEqProofs [A5, D1, C0, A7]; refine O9 (e := 65) (ds := [.raw (.map (some r)), .raw (.map (some m))]) 1000000 (by simp [A5]) (by omega) (by simp) (by kernel_rfl) ?_; simp -implicitDefEqProofs [A5, D1, C0, A7]; refine a0R (m := R9 R) (E := none) 1000001 (by omega) a3u (by simp [A5]) hkf Tryz.zd_4 hmg ?_; simp -implicitDefEqProofs [A5, D1, C0, A7]; exact ⟨.d (.int .i64 (0)), [1000000, 1000001, 1000002], by simp, by simp [A5, isH], by simp [a1y], by simp, by simp [A5]⟩
    · have h2 : 4096 ≤ R.length := by rcases h with h | h | h <;> first | contradiction | exact h
      have he : W1 R c = 3 := (by simp [W1, h0, h1, h2]); rw [if_neg h1] at hmg; rw [he]; simp -implicitDefEqProofs [A5, U0, A7]; refine M2 [1000000] 1000000 c1 (by simp [A5, U0]) rfl (by simp) ?_; rintro x hs' ⟨rfl, rfl⟩; simp -implicitDefEqProofs [A5, D1, C0, A7]; refine A1 c2 ?_; simp -implicitDefEqProofs [A5, D1, C0, A7]; refine O9 (e := 65) (ds := [.raw (.map (some r)), .raw (.map (some m))]) 1000000 (by simp [A5]) (by omega) (by simp) (by kernel_rfl) ?_; simp -implicitDefEqProofs [A5, D1, C0, A7]; refine a0R (m := R9 R) (E := none) 1000001 (by omega) a3u (by simp [A5]) hkf Tryz.zd_4 hmg ?_; simp -implicitDefEqProofs [A5, D1, C0, A7]; refine O9 (e := 65) (ds := [.raw (.map (some r)), .raw (.map (some m))]) 1000000 (by simp [A5]) (by omega) (by simp) (by kernel_rfl) ?_; simp -implicitDefEqProofs [A5, D1, C0, A7]; refine c2l (m := R9 R) (E := none) 1000001 (by omega) a3u (by simp [A5]) ?_; have h2' : (4096 : Int) ≤ (R9 R).length := by rw [hlr]; omega
      simp -implicitDefEqProofs [A5, D1, C0, A7, h2']; exact ⟨.d (.int .i64 (3)), [1000000, 1000001, 1000002], by simp, by simp [A5, isH], by simp [a1y], by simp, by simp [A5]⟩
  · have he : W1 R c = Q4 c := (by simp [W1, h0]); rw [he]; simp -implicitDefEqProofs [A5, U0, A7]; refine M2 [1000000] 1000000 c1 (by simp [A5, U0]) rfl (by simp) ?_; rintro x hs' ⟨rfl, rfl⟩; simp -implicitDefEqProofs [A5, D1, C0, A7]; refine A1 c2 ?_; simp -implicitDefEqProofs [A5, D1, C0, A7, h0]; exact ⟨.d (.int .i64 (Q4 c)), [1000000, 1000001, 1000002], by simp, by simp [A5, isH], by simp [a1y], by simp, by simp [A5]⟩
theorem b8I (s r m : Nat) (R : List Chg) (E : List X9) (c : Chg) (a : Abt) (b v : Nat) (hn : (E.map (·.1)).Nodup) (hin : (idC c, a, b, v) ∈ E) (ha : b5f a) (hc : S4 c) (h0 : Q4 c = 0) (h1 : c ∉ R) (h2 : R.length < 4096) :
    G8 prog 13 [.d (.raw (va s)), .d (B0 c)] (U0 s r m R E ++ abH b v a) (fun x hs' => x = .d (.int .i64 0) ∧ hs' = U0 s r m (R ++ [c]) E ++ abH b v (Q7 a c)) := by
  have c1 := a7a s r m; have c2 := a8p c hc; have c3 := b6q b v a c ha hc; have hmg := a7Z R c; have hms := b2F h1; have hge := b1A hn hin; have ec_eq : B0 c = .agg [B8 c.1, .int .i64 (opC c), .str c.2.2.1, .str c.2.2.2.1, .str c.2.2.2.2.1, .str c.2.2.2.2.2] := rfl; have hkf := a6s c; simp only [stD] at c1; rw [if_neg h1] at hmg; rw [h0] at c2; simp only at hge; refine a4X (fun i => i == 5000007 || i == 5000056 || i == 21000012 || i == 1000047) (by kernel_rfl) func13 (by kernel_rfl) rfl rfl (nbl rfl) (by kernel_rfl) rfl ?_; rw [ec_eq] at c2 c3 hkf hmg hms ⊢; have hlr : (R9 R).length = R.length := (by simp [R9]); have h2' : ¬ (4096 : Int) ≤ (R9 R).length := by rw [hlr]; omega
  simp only [abH] at c3 ⊢; generalize Q7 a c = A2 at *; simp -implicitDefEqProofs [A5, U0, A7]; refine M2 [1000000] 1000000 c1 (by simp [A5, U0]) rfl (by simp) ?_; rintro x hs' ⟨rfl, rfl⟩; simp -implicitDefEqProofs [A5, D1, C0, A7]; refine A1 c2 ?_; simp -implicitDefEqProofs [A5, D1, C0, A7]; refine O9 (e := 65) (ds := [.raw (.map (some r)), .raw (.map (some m))]) 1000000 (by simp [A5]) (by omega) (by simp) (by kernel_rfl) ?_; simp -implicitDefEqProofs [A5, D1, C0, A7]; refine a0R (m := R9 R) (E := none) 1000001 (by omega) a3u (by simp [A5]) hkf Tryz.zd_4 hmg ?_; simp -implicitDefEqProofs [A5, D1, C0, A7]; refine O9 (e := 65) (ds := [.raw (.map (some r)), .raw (.map (some m))]) 1000000 (by simp [A5]) (by omega) (by simp) (by kernel_rfl) ?_; simp -implicitDefEqProofs [A5, D1, C0, A7]; refine c2l (m := R9 R) (E := none) 1000001 (by omega) a3u (by simp [A5]) ?_; simp -implicitDefEqProofs [A5, D1, C0, A7, h2']; refine O9 (e := 65) (ds := [.raw (.map (some r)), .raw (.map (some m))]) 1000000 (by simp [A5]) (by omega) (by simp) (by kernel_rfl) ?_; simp -implicitDefEqProofs [A5, D1, C0, A7]; refine a5A (m := R9 R) (E := none) 1000001 a3u (by simp [A5]) hkf _ (List.Perm.refl _) ?_; rw [hms]; simp -implicitDefEqProofs [A5, D1, C0, A7]; refine O9 (e := 65) (ds := [.raw (.map (some r)), .raw (.map (some m))]) 1000000 (by simp [A5]) (by omega) (by simp) (by kernel_rfl) ?_; simp -implicitDefEqProofs [A5, D1, C0, A7]; refine a0R (m := S9 E) (E := none) 1000002 (by omega) a3y (by simp [A5]) (F7 _) Tryz.zd_75 hge ?_; simp -implicitDefEqProofs [A5, D1, C0, A7]; refine O9 (e := 65) (ds := [.raw (.map (some r)), .raw (.map (some m))]) 1000000 (by simp [A5]) (by omega) (by simp) (by kernel_rfl) ?_; simp -implicitDefEqProofs [A5, D1, C0, A7]; refine a0R (m := S9 E) (E := none) 1000002 (by omega) a3y (by simp [A5]) (F7 _) Tryz.zd_75 hge ?_; simp -implicitDefEqProofs [A5, D1, C0, A7]; refine M2 [1000003, 1000004] 1000003 c3 (by simp [A5]) rfl (by simp) ?_; rintro x hs' ⟨rfl, rfl⟩; simp -implicitDefEqProofs [A5, D1, C0, A7]; exact ⟨.d (.int .i64 0), [1000000, 1000001, 1000002, 1000003, 1000004], by simp, by simp [A5, isH], by simp [a1y], by simp, by simp [A5]⟩
theorem b9B : b5f R5 := by
  refine ⟨⟨by simp [R5, P3], by simp [R5, P3], by simp [R5, P3], by simp [R5, P3]⟩, fun k => ?_⟩; simp [R5, a0O, a5I]; exact ⟨by simp [P3], by simp [P3], by simp [P3], by simp [P3]⟩
theorem c0x (s r m : Nat) (R : List Chg) (E : List X9) (c : Chg) (hnew : ∀ e ∈ E, e.1 ≠ idC c) (hc : S4 c) (h0 : Q4 c = 0) (h1 : c ∉ R) (h2 : R.length < 4096) :
    G8 prog 13 [.d (.raw (va s)), .d (B0 c)] (U0 s r m R E) (fun x hs' => x = .d (.int .i64 0) ∧ ∃ b v, hs' = U0 s r m (R ++ [c]) (E ++ [(idC c, Q7 R5 c, b, v)]) ++ abH b v (Q7 R5 c)) := by
  have c1 := a7a s r m; have c2 := a8p c hc; have c3 : ∀ b v, _ := fun b v => b6q b v R5 c b9B hc
  have hmg := a7Z R c; have hms := b2F h1; have hge := b1D hnew; have hme : ∀ b v, _ := fun b v => b2S (a := Q7 R5 c) (b := b) (v := v) hnew
  have hg2 : ∀ b, L4 (R8 (S9 E) (.str (idC c)) (.raw (va b))) (.str (idC c)) = some (.raw (va b)) := fun b => by
    rw [b2S (a := Q7 R5 c) (b := b) (v := 0) hnew]; have : ∀ E : List X9, (∀ e ∈ E, e.1 ≠ idC c) → L4 (S9 (E ++ [(idC c, Q7 R5 c, b, 0)])) (.str (idC c)) = some (.raw (va b)) := by
      intro E
      induction E with
      | nil => intro _; simp [L4, S9, K5]
      | cons x E ih =>
        intro h; have := ih fun e he => h e (by simp [he])
        simp only [L4, S9, List.cons_append, List.map_cons, List.find?_cons, K5, decide_eq_false (h x (by simp))] at this ⊢; exact this
    exact this E hnew
  have ec_eq : B0 c = .agg [B8 c.1, .int .i64 (opC c), .str c.2.2.1, .str c.2.2.2.1, .str c.2.2.2.2.1, .str c.2.2.2.2.2] := rfl; have hkf := a6s c; have za_eq : ∀ v, P5 R5 (.raw (.map (some v))) = .agg [.bool false, .bool false, .agg [.agg [.int .i64 0, .int .i64 0, .int .i64 0], .int .i64 0, .str [], .str [], .str [], .str []], .raw (.map (some v))] := fun _ => rfl
  have zv : R5.vs = [] := rfl; have zvm : vsM [] = [] := rfl; simp only [stD] at c1; rw [if_neg h1] at hmg; rw [h0] at c2; refine a4X (fun i => i == 5000007 || i == 5000056 || i == 21000012 || i == 1000047) (by kernel_rfl) func13 (by kernel_rfl) rfl rfl (nbl rfl) (by kernel_rfl) rfl ?_; rw [ec_eq] at c2 c3 hkf hmg hms ⊢; have hlr : (R9 R).length = R.length := (by simp [R9]); have h2' : ¬ (4096 : Int) ≤ (R9 R).length := by rw [hlr]; omega
  simp only [abH] at c3 ⊢; simp only [za_eq, zv, zvm] at c3; generalize Q7 R5 c = A2 at *; simp -implicitDefEqProofs [A5, U0, A7]; refine M2 [1000000] 1000000 c1 (by simp [A5, U0]) rfl (by simp) ?_; rintro x hs' ⟨rfl, rfl⟩; simp -implicitDefEqProofs [A5, D1, C0, A7]; refine A1 c2 ?_; simp -implicitDefEqProofs [A5, D1, C0, A7]; refine O9 (e := 65) (ds := [.raw (.map (some r)), .raw (.map (some m))]) 1000000 (by simp [A5]) (by omega) (by simp) (by kernel_rfl) ?_; simp -implicitDefEqProofs [A5, D1, C0, A7]; refine a0R (m := R9 R) (E := none) 1000001 (by omega) a3u (by simp [A5]) hkf Tryz.zd_4 hmg ?_; simp -implicitDefEqProofs [A5, D1, C0, A7]; refine O9 (e := 65) (ds := [.raw (.map (some r)), .raw (.map (some m))]) 1000000 (by simp [A5]) (by omega) (by simp) (by kernel_rfl) ?_; simp -implicitDefEqProofs [A5, D1, C0, A7]; refine c2l (m := R9 R) (E := none) 1000001 (by omega) a3u (by simp [A5]) ?_; simp -implicitDefEqProofs [A5, D1, C0, A7, h2']; refine O9 (e := 65) (ds := [.raw (.map (some r)), .raw (.map (some m))]) 1000000 (by simp [A5]) (by omega) (by simp) (by kernel_rfl) ?_; simp -implicitDefEqProofs [A5, D1, C0, A7]; refine a5A (m := R9 R) (E := none) 1000001 a3u (by simp [A5]) hkf _ (List.Perm.refl _) ?_; rw [hms]; simp -implicitDefEqProofs [A5, D1, C0, A7]; refine O9 (e := 65) (ds := [.raw (.map (some r)), .raw (.map (some m))]) 1000000 (by simp [A5]) (by omega) (by simp) (by kernel_rfl) ?_; simp -implicitDefEqProofs [A5, D1, C0, A7]; refine a0R (m := S9 E) (E := none) 1000002 (by omega) a3y (by simp [A5]) (F7 _) Tryz.zd_75 hge ?_; simp -implicitDefEqProofs [A5, D1, C0, A7]; refine d0i 9 [0, 1, 2, 3, 4, 5, 6, 7, 8] [39, 40, 41, 42, 43, 44, 45, 46, 47] (by kernel_rfl) (by kernel_rfl) ?_; simp -implicitDefEqProofs [A5, D1, C0, A7]; refine O9 (e := 65) (ds := [.raw (.map (some r)), .raw (.map (some m))]) 1000000 (by simp [A5]) (by omega) (by simp) (by kernel_rfl) ?_; simp -implicitDefEqProofs [A5, D1, C0, A7]; refine c6V 101 1000004 (by omega) (by simp [A5]) (fun v => ?_); simp -implicitDefEqProofs [A5, D1, C0, A7]; refine c7P 1000003 (by omega) (by simp [A5]) (fun b => ?_); simp -implicitDefEqProofs [A5, D1, C0, A7]; refine a5A (m := S9 E) (E := none) 1000002 a3y (by simp [A5]) (F7 _) _ (List.Perm.refl _) ?_; have hme := hme b v; have hg2 := hg2 b; have hvb : va b = .pointer (some ⟨b, 0, none⟩) := rfl; rw [hme] at hg2; rw [← hvb, hme]; simp -implicitDefEqProofs [A5, D1, C0, A7]; refine O9 (e := 65) (ds := [.raw (.map (some r)), .raw (.map (some m))]) 1000000 (by simp [A5]) (by omega) (by simp) (by kernel_rfl) ?_; simp -implicitDefEqProofs [A5, D1, C0, A7]; refine a0R (m := S9 (E ++ [(idC c, A2, b, v)])) (E := none) 1000002 (by omega) a3y (by simp [A5]) (F7 _) Tryz.zd_75 hg2 ?_; simp -implicitDefEqProofs [A5, D1, C0, A7]; refine M2 [1000003, 1000004] 1000003 (c3 b v) (by simp [A5]) rfl (by simp) ?_; rintro x hs' ⟨rfl, rfl⟩; simp -implicitDefEqProofs [A5, D1, C0, A7]; exact ⟨.d (.int .i64 0), [1000000, 1000001, 1000002, 1000003, 1000004], by simp, by simp [A5, isH], by simp [a1y], rfl, b, v, by simp [A5]⟩
theorem b2a : S4 P3 := ⟨by simp [P3], by simp [P3], by simp [P3], by simp [P3]⟩
theorem b2q (a b : Chg) : S2 a b = a ∨ S2 a b = b := by
  unfold S2; split
  · exact .inr rfl
  · exact .inl rfl
theorem b9U (vs : List (VK × Chg)) (k k' : VK) (c : Chg) : a0O (a4S vs k c) k' = if k = k' then c else a0O vs k' := by
  unfold a0O a5I a4S; by_cases ha : vs.any (fun p => decide (p.1 = k)) = true
  · rw [if_pos ha]; have key : ∀ vs : List (VK × Chg), ((vs.map fun p => if p.1 = k then (p.1, c) else p).find? fun p => decide (p.1 = k')) = (vs.find? fun p => decide (p.1 = k')).map fun p => if p.1 = k then (p.1, c) else p := by
      intro vs
      induction vs with
      | nil => rfl
      | cons p vs ih =>
        rw [List.map_cons, List.find?_cons, List.find?_cons]; by_cases h : p.1 = k
        · rw [if_pos h]; by_cases h2 : p.1 = k'
          · simp only [decide_eq_true h2, Option.map_some, if_pos h]
          · simp only [decide_eq_false h2]; exact ih
        · rw [if_neg h]; by_cases h2 : p.1 = k'
          · simp only [decide_eq_true h2, Option.map_some, if_neg h]
          · simp only [decide_eq_false h2]; exact ih
    rw [key]; by_cases h : k = k'
    · rw [if_pos h]; obtain ⟨p, hp, e⟩ := List.any_eq_true.1 ha; cases hf : vs.find? fun p => decide (p.1 = k') with
      | none => exact absurd (by rw [← h]; exact e) (List.find?_eq_none.1 hf p hp)
      | some q =>
        have : q.1 = k' := by simpa using List.find?_some hf
        simp [this, h]
    · rw [if_neg h]; cases hf : vs.find? fun p => decide (p.1 = k') with
      | none => rfl
      | some q =>
        have hq : q.1 = k' := by simpa using List.find?_some hf
        have : ¬ q.1 = k := fun e => h (e.symm.trans hq)
        simp [this]
  · rw [if_neg ha, List.find?_append]; by_cases h : k = k'
    · subst h; rw [if_pos rfl]; have : vs.find? (fun p => decide (p.1 = k)) = none := by
        rw [List.find?_eq_none]; intro p hp hq; exact ha (List.any_eq_true.2 ⟨p, hp, hq⟩)
      simp [this]
    · rw [if_neg h]; have : List.find? (fun p : VK × Chg => decide (p.1 = k')) [(k, c)] = none := by simp [h]
      simp [this]
theorem b5h (R : List Chg) (id : Str) : ((abF R id).nm ∈ R ∨ (abF R id).nm = P3) ∧ ∀ k, a0O (abF R id).vs k ∈ R ∨ a0O (abF R id).vs k = P3 := by
  refine V8 (P := fun R => ((abF R id).nm ∈ R ∨ (abF R id).nm = P3) ∧ ∀ k, a0O (abF R id).vs k ∈ R ∨ a0O (abF R id).vs k = P3) ⟨.inr rfl, fun k => .inr rfl⟩ (fun R c ih => ?_) R; have h1 : (abF R id).nm ∈ R ++ [c] ∨ (abF R id).nm = P3 := ih.1.imp (fun h => by simp [h]) (fun h => h); have h2 : ∀ k, a0O (abF R id).vs k ∈ R ++ [c] ∨ a0O (abF R id).vs k = P3 := fun k => (ih.2 k).imp (fun h => by simp [h]) (fun h => h)
  rw [a3U]; split
  · have h3 : S2 (abF R id).nm c ∈ R ++ [c] ∨ S2 (abF R id).nm c = P3 := by
      rcases b2q (abF R id).nm c with e | e
      · rw [e]; exact h1
      · rw [e]; simp
    unfold Q7; split
    · exact ⟨h3, h2⟩
    · split
      · exact ⟨h3, h2⟩
      · split
        · exact ⟨h1, h2⟩
        · refine ⟨h1, fun k => ?_⟩; simp only [b9U]; split
          · rcases b2q (a0O (abF R id).vs (a1t c)) c with e | e
            · rw [e]; exact h2 _
            · rw [e]; simp
          · exact h2 k
  · exact ⟨h1, h2⟩
theorem c4h {R : List Chg} (h : ∀ c ∈ R, S4 c) (id : Str) : b5f (abF R id) := by
  obtain ⟨h1, h2⟩ := b5h R id; refine ⟨h1.elim (h _) fun e => by rw [e]; exact b2a, fun k => (h2 k).elim (h _) fun e => by rw [e]; exact b2a⟩
theorem b5V {E : List X9} {R : List Chg} (hE : Z2 E = S8 R) : E.map (·.1) = (S8 R).map (·.1) := by
  rw [← hE]; simp [Z2, Function.comp_def]
theorem c2e {E1 E2 : List X9} {i : Str} {a a' : Abt} {b v : Nat} : S9 (E1 ++ (i, a', b, v) :: E2) = S9 (E1 ++ (i, a, b, v) :: E2) := by simp [S9]
theorem b1I (i : Str) (a : Abt) (b v : Nat) : a2w (i, a, b, v) = abH b v a := rfl
theorem c1w (s r m : Nat) (R : List Chg) (E : List X9) (hE : Z2 E = S8 R) (hR : ∀ c ∈ R, S4 c) (c : Chg) (hc : S4 c) :
    G8 prog 13 [.d (.raw (va s)), .d (B0 c)] (stH s r m R E) (fun x hs' => x = .d (.int .i64 (W1 R c)) ∧ ∃ E', Z2 E' = S8 (Y1 R c) ∧ hs' = stH s r m (Y1 R c) E') := by
  have hnd : (E.map (·.1)).Nodup := by rw [b5V hE]; exact a3z R
  by_cases hrej : Q4 c ≠ 0 ∨ c ∈ R ∨ 4096 ≤ R.length
  · have e1 : Y1 R c = R := by
      unfold Y1; rw [if_neg]; rintro ⟨h1, h2, h3⟩; rcases hrej with h | h | h
      · exact h h1
      · exact h2 h
      · omega
    rw [e1]; refine ((b9D s r m R E c hc hrej).frame (E.flatMap a2w)).post ?_; rintro x hs' ⟨h1, rfl, rfl, rfl⟩; exact ⟨rfl, E, hE, rfl⟩
  · have h0 : Q4 c = 0 := by
      refine Classical.byContradiction fun h => hrej (.inl h)
    have h1 : c ∉ R := fun h => hrej (.inr (.inl h))
    have h2 : R.length < 4096 := by
      refine Classical.byContradiction fun h => hrej (.inr (.inr (by omega)))
    have e1 : Y1 R c = R ++ [c] := by unfold Y1; rw [if_pos ⟨h0, h1, h2⟩]
    have e2 : W1 R c = 0 := by
      unfold W1; rw [if_neg (by simpa using h0), if_neg h1, if_neg (by omega)]
    rw [e1, e2]; by_cases hk : ∃ e ∈ E, e.1 = idC c
    · obtain ⟨⟨i, a, b, v⟩, he, hi⟩ := hk; simp only at hi; subst hi; obtain ⟨E1, E2, rfl⟩ := List.append_of_mem he; have hmem : (idC c, a) ∈ S8 R := by rw [← hE]; exact List.mem_map.2 ⟨_, he, rfl⟩
      have ha : b5f a := by rw [(a5v.1 hmem).2]; exact c4h hR _
      have hc1 := ((b8I s r m R (E1 ++ (idC c, a, b, v) :: E2) c a b v hnd he ha hc h0 h1 h2).frame (E1.flatMap a2w ++ E2.flatMap a2w)).perm (hs2 := stH s r m R (E1 ++ (idC c, a, b, v) :: E2)) (by
        simp only [stH, List.flatMap_append, List.flatMap_cons, List.append_assoc, b1I]; refine List.perm_append_left_iff _ |>.2 ?_
        rw [← List.append_assoc, ← List.append_assoc]; exact List.Perm.append_right _ List.perm_append_comm)
      refine hc1.permOut ?_; rintro x hs' ⟨h1', rfl, rfl, rfl⟩; refine ⟨stH s r m (R ++ [c]) (E1 ++ (idC c, Q7 a c, b, v) :: E2), ?_, rfl, E1 ++ (idC c, Q7 a c, b, v) :: E2, ?_, rfl⟩
      · simp only [stH, U0, List.flatMap_append, List.flatMap_cons, List.append_assoc, b1I, c2e (a := a) (a' := Q7 a c)]; refine List.perm_append_left_iff _ |>.2 ?_
        rw [← List.append_assoc, ← List.append_assoc]; exact List.Perm.append_right _ List.perm_append_comm
      · rw [a4y, ← hE]; have hd1 : ∀ e ∈ E1, ¬ e.1 = idC c := fun e he' q => by
          rw [List.map_append, List.nodup_append] at hnd; exact hnd.2.2 e.1 (List.mem_map.2 ⟨e, he', rfl⟩) (idC c) (by simp) q
        have hd2 : ∀ e ∈ E2, ¬ e.1 = idC c := fun e he' q => by
          rw [List.map_append, List.nodup_append] at hnd; have := hnd.2.1; rw [List.map_cons, List.nodup_cons] at this; exact this.1 (by rw [← q]; exact List.mem_map.2 ⟨e, he', rfl⟩)
        unfold a3Z; rw [if_pos (by simp [Z2])]; simp only [Z2, List.map_append, List.map_cons, List.map_map, if_true]; congr 1
        · refine List.map_congr_left fun e he' => ?_
          simp only [Function.comp_apply, if_neg (hd1 e he')]
        · congr 1
          refine List.map_congr_left fun e he' => ?_
          simp only [Function.comp_apply, if_neg (hd2 e he')]
    · have hnew : ∀ e ∈ E, e.1 ≠ idC c := fun e he q => hk ⟨e, he, q⟩
      have hc1 := (c0x s r m R E c hnew hc h0 h1 h2).frame (E.flatMap a2w); refine hc1.permOut ?_; rintro x hs' ⟨h1', rfl, rfl, b, v, rfl⟩; refine ⟨_, ?_, rfl, E ++ [(idC c, Q7 R5 c, b, v)], ?_, rfl⟩
      · simp only [stH, List.flatMap_append, List.flatMap_cons, List.flatMap_nil, List.append_nil, List.append_assoc, b1I]; exact List.perm_append_left_iff _ |>.2 List.perm_append_comm
      · rw [a4y, ← hE]; unfold a3Z Z2; rw [if_neg]
        · simp
        · simp only [List.any_map, List.any_eq_true, Function.comp_apply, decide_eq_true_eq, not_exists, not_and]; exact hnew
theorem c0t : G8 prog 11 [] [] (fun x hs' => ∃ s r m, x = .d (.raw (va s)) ∧ hs' = stH s r m [] []) := by
  refine a1l (fun i => i == 1000004) (by kernel_rfl) func11 (by kernel_rfl) rfl rfl (nbl rfl) (by kernel_rfl) rfl ?_; simp -implicitDefEqProofs [A5]; refine b0U 35 1000001 (by simp [A5]) (fun r => ?_); simp -implicitDefEqProofs [A5]; refine b0U 9 1000002 (by simp [A5]) (fun m => ?_); simp -implicitDefEqProofs [A5]; refine ⟨1000000, by simp [A5], fun s => ?_⟩; simp -implicitDefEqProofs [A5]; exact ⟨.d (.raw (va s)), [1000000, 1000001, 1000002], by simp, by simp [A5, isH], by simp [a1y, A5], s, rfl, r, m, by simp [A5, stH, U0, R9, S9]⟩
@[simp] theorem c5r {P : Program} {F : Nat → Bool} {K : St → Prop} {σ : St} (ds : List Nat) (d : Nat) (args : Array Operand) (ts : Array TypeId) (ty : TypeId) (pos : String) (after : Array Edge) (g : Option (Nat × Bool)) (rest : List Oper) :
    F1 P F ds ({ dst := some d, op := .call { callee := .builtin .min, args, argTypes := ts }, type := ty, pos, after, guard := g } :: rest) K σ = D4 P F (.call { callee := .builtin .min, args, argTypes := ts }) d σ (K6 ds d (F1 P F ds rest K) σ) := rfl
def b3V (v id : Str) : Str := v.take (min v.length (256 - (id.length + 1))) ++ 35 :: id
def b1L (own id : Str) : List F6 := match (C8 own).1 with
  | [] => []
  | p :: l => (p.1, b3V p.2 id) :: l
def a9K (own id : Str) : Str := (F4 (b1L own id)).1
theorem c1R (own id : Str) (ho : List.length own < 900000) (hi : List.length id < 200) (hp : (C8 own).1 ≠ []) : Ctr prog 89 [.d (.str own), .d (.str id)] (.d (.str (a9K own id))) := by
  have c1 := b2R own ho; obtain ⟨p, l, hpl⟩ : ∃ p l, (C8 own).1 = p :: l := by
    cases h : (C8 own).1 with
    | nil => exact absurd h hp
    | cons p l => exact ⟨p, l, rfl⟩
  have hoth : b1L own id = (p.1, b3V p.2 id) :: l := (by simp [b1L, hpl]); have hfit : a5E (b1L own id) := by
    have h1 := X4 own; rw [hpl] at h1; rw [hoth]; refine ⟨by simpa using h1.1, fun q hq => ?_⟩; rcases List.mem_cons.1 hq with rfl | hq
    · have := h1.2 p (by simp); refine ⟨this.1, ?_⟩; simp only [b3V, List.length_append, List.length_take, List.length_cons]; omega
    · exact h1.2 q (by simp [hq])
  have c2 := a5N _ hfit; rw [hpl] at c1; obtain ⟨e1, he1⟩ : ∃ e1, (C8 own).2 = e1 := ⟨_, rfl⟩; rw [he1] at c1; obtain ⟨S, hS⟩ : ∃ S, F4 (b1L own id) = S := ⟨_, rfl⟩; have hos : a9K own id = S.1 := by rw [← hS]; rfl
  rw [hS] at c2; rw [hos]; rw [hoth] at c2; refine fv (fun i => i == 9000003 || i == 9000004 || i == 41) func89 (by kernel_rfl) rfl rfl rfl rfl rfl ?_; simp -implicitDefEqProofs; refine A1 c1 ?_; simp -implicitDefEqProofs [G1, F9]; refine ⟨by omega, ⟨by omega, by omega⟩, ?_⟩; have hmin : ((if (256 : Int) - ((List.length id : Nat) + 1) < (List.length p.2 : Nat) then (256 : Int) - ((List.length id : Nat) + 1) else (List.length p.2 : Nat)) : Int) = ((min p.2.length (256 - (id.length + 1)) : Nat) : Int) := by
    split <;> omega
  have hcut : b3V p.2 id = p.2.take (min p.2.length (256 - (id.length + 1))) ++ 35 :: id := rfl; have hm0 : min p.2.length (256 - (id.length + 1)) ≤ p.2.length := Nat.min_le_left _ _; generalize min p.2.length (256 - (id.length + 1)) = m at *; simp -implicitDefEqProofs [G1, F9, hmin]; have hl8 : l.length < 1000000 := by have := (hoth ▸ hfit : a5E ((p.1, b3V p.2 id) :: l)).1; simp at this; omega
  refine ⟨hm0, by have := Nat.min_le_left m (List.length p.2); have := X4 own; rw [hpl] at this; have := (this.2 p (by simp)).2; omega, ?_, ?_, by omega, by omega, ?_⟩
  · rintro a x y _ rfl; rfl
  · intro u hu; obtain ⟨q, _, rfl⟩ := List.mem_map.1 (List.mem_of_mem_take hu); rfl
  have htk : (l.map F9).take l.length = l.map F9 := ttl (by simp); rw [htk]; rw [hcut] at c2; refine F0 c2 ?_; simp -implicitDefEqProofs
end Go.Proofs.Tz