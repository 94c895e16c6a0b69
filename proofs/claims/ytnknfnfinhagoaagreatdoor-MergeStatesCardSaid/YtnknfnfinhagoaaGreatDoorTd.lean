/-
  What the functions that the statements about merged states reach compute, part 4 of 6, for data of bounded size (each theorem states its bound).
-/import Derived.Test.YtnknfnfinhagoaaGreatDoorTc
import Derived.Test.YtnknfnfinhagoaaGreatDoorTa
import Derived.Test.YtnknfnfinhagoaaGreatDoorWc
import Derived.Test.YtnknfnfinhagoaaGreatDoorTb
import Derived.Test.YtnknfnfinhagoaaGreatDoorWd
open List
open Go.Proofs.Tryz
set_option linter.unusedSimpArgs false
set_option linter.unusedVariables false
set_option maxRecDepth 100000
set_option maxHeartbeats 8000000
namespace Go.Proofs.Tz
open Go.Vw Go.RowKit Go.Proofs
abbrev a0z (a b : Str) : Int := Go.Lib.compareBytes a b
theorem b1Q : ∀ (a b : Str), a0z a b = if a < b then -1 else if b < a then 1 else 0
 | [], [] => by simp [a0z, Go.Lib.compareBytes]
 | [], b :: bs => by simp [a0z, Go.Lib.compareBytes]
 | a :: l, [] => by simp [a0z, Go.Lib.compareBytes]
 | a :: l, b :: bs => by
   have ih := b1Q l bs; simp only [a0z, Go.Lib.compareBytes] at ih ⊢; simp only [cons_lt_cons_iff]; by_cases h1 : a < b
   . simp [h1]
   . by_cases h2 : b < a
     . have hne : ¬ a = b := by rintro rfl; exact h1 h2
       have hne' : ¬ b = a := fun e => hne e.symm
       simp [h1, h2, hne, hne']
     . have he : a = b := UInt8.le_antisymm (by simpa using h2) (by simpa using h1); subst he; simp [h1, ih]
theorem b2e {a b : Str} : a0z a b = 0 ↔ a = b := by
 rw [b1Q]; constructor
 . intro h; by_cases h1 : a < b
   . rw [if_pos h1] at h; simp at h
   . by_cases h2 : b < a
     . rw [if_neg h1, if_pos h2] at h; simp at h
     . rw [List.not_lt] at h1 h2; exact List.le_antisymm h2 h1
 . rintro rfl; rw [if_neg (List.lt_irrefl a), if_neg (List.lt_irrefl a)]
theorem b5N {a b : Str} : a0z a b < 0 ↔ a < b := by
 rw [b1Q]; by_cases h1 : a < b
 . simp [h1]
 . by_cases h2 : b < a
   . simp [h1, h2]
   . simp [h1, h2]
set_option maxHeartbeats 1000000 in
theorem b5n (a b : Str) (w : World) : Calls prog 127 #[.string ⟨a.toArray⟩, .string ⟨b.toArray⟩] w fun e w' => e = .returned (.int .i64 (a0z a b)) /\ w' = w := by
 go_enter func127, Tryz.ntmps127
 go_wp2
 rw [run_callFunc_extern func182 (by kernel_rfl) (by kernel_rfl) (by kernel_rfl) (e := Extern.BytealgCompare.compare) (by kernel_rfl), Lib.run_compareString]; simp only [Result.andThen]; rw [Oper.upon_value]
 go_wp2
 go_ret
 simp [a0z]
theorem b6i (a b : Str) : Ctr prog 127 [.d (.str a), .d (.str b)] (.d (.int .i64 (a0z a b))) := by
 refine Ctr.same (xs := [.str a, .str b]) (enters_of func127 (by kernel_rfl) rfl) (b5n a b) (fun w L og vals h => ?_) (fun w L => RepV.int); obtain ⟨v, us, rfl, h1, v2, us2, rfl, h2, h3⟩ := h; obtain rfl : us2 = [] := h3; obtain rfl := RepV.str_inv h1; obtain rfl := RepV.str_inv h2; rfl
theorem a7e (a b : Str) : Ctr prog 77 [.d (.str a), .d (.str b)] (.d (.int .i64 (a0z a b))) := by
 refine fv (fun _ => false) func77 (by kernel_rfl) rfl rfl rfl rfl rfl ?_; simp -implicitDefEqProofs; refine A0 (b6i a b) ?_; simp -implicitDefEqProofs
end Go.Proofs.Tz
namespace Go.Proofs.Tz
open Go.Vw Go.RowKit Go.Proofs Go.Sort
abbrev d0N := {c : Chg // M8 c}
instance : Inhabited d0N := ⟨⟨L5, ⟨by simp [L5], by simp [L5], by simp [L5], by simp [L5]⟩⟩⟩
end Go.Proofs.Tz
namespace Go.Proofs.Tz
open Go.Vw Go.RowKit Go.Proofs
def H5 (s : Str) : Str × Bool := match K3 s with
 | some (p :: l) => ((F9 l).1, true)
 | _ => ([], false)
def R0 (a b : Str) : Int := if a < b then -1 else if b < a then 1 else 0
theorem a1h {a b : Str} : R0 a b = 0 ↔ a = b := by
 unfold R0; constructor
 . intro h; split at h
   . cases h
   . split at h
     . cases h
     . rename_i h1 h2; exact a1f h1 h2
 . rintro rfl; simp [a0I]
theorem a4D {a b : Str} : R0 a b < 0 ↔ a < b := by
 unfold R0; split
 . rename_i h; simp [h]
 . rename_i h
   simp only [h, iff_false]; split <;> omega
theorem c0N (a : Str) : R0 a a = 0 := a1h.2 rfl
theorem a7G (a b : Str) : R0 b a = - R0 a b := by
 unfold R0; by_cases h1 : a < b
 . have h2 : ¬ b < a := fun h => a0I _ (Z8 h1 h)
   simp [h1, h2]
 . by_cases h2 : b < a
   . simp [h1, h2]
   . simp [h1, h2]
def Z5 (p q : F8) : Int := if R0 p.1 q.1 = 0 then R0 p.2 q.2 else R0 p.1 q.1
theorem a3o {p q : F8} : Z5 p q = 0 ↔ p = q := by
 unfold Z5; split
 . rename_i h
   rw [a1h] at h ⊢; obtain ⟨a, b⟩ := p; obtain ⟨c, d⟩ := q; simp only at h; simp [h]
 . rename_i h
   constructor
   . intro h2; exact absurd h2 h
   . rintro rfl; exact absurd (c0N _) h
theorem c0b (p q : F8) : Z5 q p = - Z5 p q := by
 unfold Z5; rw [a7G p.1 q.1]; by_cases h : R0 p.1 q.1 = 0
 . simp [h, a7G p.2 q.2]
 . have h' : ¬ (- R0 p.1 q.1 = 0) := (by omega); rw [if_neg h, if_neg h']
def ltP (p q : F8) : Prop := p.1 < q.1 \/ (p.1 = q.1 /\ p.2 < q.2)
theorem a9R {p q : F8} : Z5 p q < 0 ↔ ltP p q := by
 unfold Z5 ltP; by_cases h : R0 p.1 q.1 = 0
 . rw [if_pos h, a4D]; rw [a1h] at h; constructor
   . intro h2; exact .inr ⟨h, h2⟩
   . rintro (h2 | h2)
     . rw [h] at h2; exact absurd h2 (a0I _)
     . exact h2.2
 . rw [if_neg h, a4D]; constructor
   . exact .inl
   . rintro (h2 | h2)
     . exact h2
     . exact absurd (a1h.2 h2.1) h
theorem b9R {p q r : F8} (h1 : ltP p q) (h2 : ltP q r) : ltP p r := by
 rcases h1 with h1 | ⟨e1, h1⟩ <;> rcases h2 with h2 | ⟨e2, h2⟩
 . exact .inl (Z8 h1 h2)
 . exact .inl (e2 ▸ h1)
 . exact .inl (e1 ▸ h2)
 . exact .inr ⟨e1.trans e2, Z8 h1 h2⟩
def P1 : List F8 -> List F8 -> Int
 | [], [] => 0
 | [], _ :: _ => -1
 | _ :: _, [] => 1
 | p :: l, q :: m => if Z5 p q = 0 then P1 l m else Z5 p q
theorem b2u : ∀ {l m : List F8}, P1 l m = 0 ↔ l = m
 | [], [] => by simp [P1]
 | [], _ :: _ => by simp [P1]
 | _ :: _, [] => by simp [P1]
 | p :: l, q :: m => by
   simp only [P1]; split
   . rename_i h
     rw [b2u, a3o.1 h]; simp
   . rename_i h
     constructor
     . intro h2; exact absurd h2 h
     . intro e; simp only [List.cons.injEq] at e; exact absurd (a3o.2 e.1) h
theorem b2x : ∀ (l m : List F8), P1 m l = - P1 l m
 | [], [] => by simp [P1]
 | [], _ :: _ => by simp [P1]
 | _ :: _, [] => by simp [P1]
 | p :: l, q :: m => by
   simp only [P1]; rw [c0b p q, b2x l m]; by_cases h : Z5 p q = 0
   . simp [h]
   . have h' : ¬ (- Z5 p q = 0) := (by omega); rw [if_neg h, if_neg h']
theorem b0v : ∀ {l m n : List F8}, P1 l m < 0 -> P1 m n < 0 -> P1 l n < 0
 | [], [], _, h, _ => by simp [P1] at h
 | [], _ :: _, [], _, h => by simp [P1] at h
 | [], _ :: _, _ :: _, _, _ => by simp [P1]
 | _ :: _, [], _, h, _ => by simp [P1] at h
 | _ :: _, _ :: _, [], _, h => by simp [P1] at h
 | p :: l, q :: m, r :: n, h1, h2 => by
   simp only [P1] at h1 h2 ⊢; by_cases e1 : Z5 p q = 0
   . have e1' := a3o.1 e1; subst e1'; rw [if_pos e1] at h1; by_cases e2 : Z5 p r = 0
     . rw [if_pos e2] at h2 ⊢; exact b0v h1 h2
     . rw [if_neg e2] at h2 ⊢; exact h2
   . rw [if_neg e1] at h1; by_cases e2 : Z5 q r = 0
     . have e2' := a3o.1 e2; subst e2'; rw [if_neg e1]; exact h1
     . rw [if_neg e2] at h2; have h3 := a9R.2 (b9R (a9R.1 h1) (a9R.1 h2)); have : Z5 p r ≠ 0 := (by omega); rw [if_neg this]; exact h3
def R7 (a b : Str) : Int := match K3 a, K3 b with
 | some l, some m => P1 l.reverse m.reverse
 | some _, none => -1
 | none, some _ => 1
 | none, none => R0 a b
theorem a3u {a b : Str} : R7 a b = 0 ↔ a = b := by
 unfold R7; split
 . rename_i l m h1 h2
   rw [b2u]; constructor
   . intro h; have : l = m := by simpa using congrArg reverse h
     subst this; exact b3n h1 h2
   . rintro rfl; rw [h1] at h2; simp only [Option.some.injEq] at h2; rw [h2]
 . rename_i h1 h2
   simp only [Int.reduceNeg, Int.neg_eq_zero, Int.one_ne_zero, false_iff]; rintro rfl; rw [h1] at h2; cases h2
 . rename_i h1 h2
   simp only [Int.one_ne_zero, false_iff]; rintro rfl; rw [h1] at h2; cases h2
 . exact a1h
theorem b2z (a b : Str) : R7 b a = - R7 a b := by
 unfold R7; cases K3 a <;> cases K3 b <;> simp only [Int.neg_neg]
 . exact a7G a b
 . exact b2x _ _
theorem b7T {a b c : Str} (h1 : R7 a b < 0) (h2 : R7 b c < 0) : R7 a c < 0 := by
 unfold R7 at *; cases ha : K3 a <;> cases hb : K3 b <;> cases hc : K3 c <;> simp only [ha, hb, hc] at h1 h2 ⊢ <;> try omega
 . exact a4D.2 (Z8 (a4D.1 h1) (a4D.1 h2))
 . exact b0v h1 h2
theorem b2A (a : Str) : R7 a a = 0 := a3u.2 rfl
theorem b2N (x : Str) : Ctr prog 203 [.d (.str x)] (.d (.bool false)) := by
 refine fv (fun _ => false) func203 (by kernel_rfl) rfl rfl rfl rfl rfl ?_; simp -implicitDefEqProofs
theorem b0I (x y : Str) : (x < y /\ R0 x y = -1 /\ Op.bytesLess x y = true) \/ (y < x /\ R0 x y = 1 /\ Op.bytesLess x y = false /\ decide (x = y) = false) \/ (x = y /\ R0 x y = 0) := by
 by_cases h1 : x < y
 . exact .inl ⟨h1, by simp [R0, h1], b8h.2 h1⟩
 by_cases h2 : y < x
 . refine .inr (.inl ⟨h2, by simp [R0, h1, h2], a5r.2 h1, ?_⟩); rw [decide_eq_false_iff_not]; rintro rfl; exact h1 h2
 . exact .inr (.inr ⟨a1f h1 h2, by simp [R0, h1, h2]⟩)
theorem a7f (x y : Str) : Ctr prog 164 [.d (.str x), .d (.str y)] (.d (.int .i64 (R0 x y))) := by
 refine fv (fun _ => false) func164 (by kernel_rfl) rfl rfl rfl rfl rfl ?_; have c1 := b2N x; have c2 := b2N y; rcases b0I x y with ⟨_, h1, h2⟩ | ⟨_, h1, h2, h3⟩ | ⟨h1, h2⟩
 . rw [h1]; simp -implicitDefEqProofs; refine A0 c1 ?_; simp -implicitDefEqProofs; refine A0 c2 ?_; simp -implicitDefEqProofs [h2]
 . rw [h1]; simp -implicitDefEqProofs; refine A0 c1 ?_; simp -implicitDefEqProofs; refine A0 c2 ?_; simp -implicitDefEqProofs [h2, h3]
 . rw [h2]; subst h1; have h3 : Op.bytesLess x x = false := a5r.2 (a0I x); simp -implicitDefEqProofs; refine A0 c1 ?_; simp -implicitDefEqProofs; refine A0 c2 ?_; simp -implicitDefEqProofs [h3]
theorem a7u (x y : Str) : Ctr prog 139 [.d (.str x), .d (.str y)] (.d (.int .i64 (R0 x y))) := by
 refine fv (fun _ => false) func139 (by kernel_rfl) rfl rfl rfl rfl rfl ?_; rcases b0I x y with ⟨_, h1, h2⟩ | ⟨_, h1, h2, h3⟩ | ⟨h1, h2⟩
 . rw [h1]; simp -implicitDefEqProofs [h2]
 . rw [h1]; simp -implicitDefEqProofs [h2, h3]
 . rw [h2]; subst h1; have h3 : Op.bytesLess x x = false := a5r.2 (a0I x); simp -implicitDefEqProofs [h3]
theorem b0Q (s : Str) : H5 s = if H2 s = true then (match (D3 s).1 with | _ :: l => ((F9 l).1, true) | [] => ([], false)) else ([], false) := by
 rw [H5, a4t]; by_cases h : H2 s = true
 . rw [if_pos h, if_pos h]; cases (D3 s).1 <;> rfl
 . rw [if_neg h, if_neg h]
theorem a5t.tail {p : F8} {l : List F8} (h : a5t (p :: l)) : a5t l := ⟨by have := h.1; simp at this; omega, fun q hq => h.2 q (by simp [hq])⟩
theorem b8I (s : Str) (hs : List.length s < 900000) : Ctr prog 67 [.d (.str s)] (.tup [.d (.str (H5 s).1), .d (.bool (H5 s).2)]) := by
 refine G6 (rv := .tmp 2) (rs := [.tmp 3]) (r := .d (.str (H5 s).1)) (ys := [.d (.bool (H5 s).2)]) (fun i => false) (by kernel_rfl) func67 (by kernel_rfl) rfl rfl (by simp) (nbl rfl) (by kernel_rfl) rfl rfl ?_; have c1 := a2p s hs; have hf := S2 s; rw [b0Q]; generalize (D3 s).1 = l at *; simp only [F2] at c1; by_cases hv : H2 s = true
 . cases l with
   | nil =>
     simp -implicitDefEqProofs; refine A0 c1 ?_; simp -implicitDefEqProofs [hv]
   | cons p l =>
     rw [if_pos hv]; dsimp only; have c2 := a6i l hf.tail; have hlen : ¬ ((l.length : Int) + 1 = 0) := (by omega); have htk : List.take l.length (l.map E9) = l.map E9 := ttl (by simp); generalize F9 l = G at *; obtain ⟨t, g⟩ := G; simp only [F2] at c2; simp -implicitDefEqProofs; refine A0 c1 ?_; simp -implicitDefEqProofs [hv, hlen, htk]; refine ⟨⟨rfl, by rintro _ x y _ rfl; rfl⟩, ?_⟩; refine A0 c2 ?_; simp -implicitDefEqProofs
 . simp -implicitDefEqProofs; refine A0 c1 ?_; simp -implicitDefEqProofs [hv]
theorem a4x {s : Str} (h : H2 s = true) : a2J s = (D3 s).1 := by rw [a7r, if_pos h]
theorem b6y (s : Str) (hs : List.length s < 900000) : Ctr prog 69 [.d (.str s)] (.tup [.d (.str (H5 s).1), .d (.bool (H5 s).2)]) := by
 refine G6 (rv := .tmp 2) (rs := [.tmp 3]) (r := .d (.str (H5 s).1)) (ys := [.d (.bool (H5 s).2)]) (fun i => false) (by kernel_rfl) func69 (by kernel_rfl) rfl rfl (by simp) (nbl rfl) (by kernel_rfl) rfl rfl ?_; have c1 := a4T s hs; have hf := S2 s; rw [b0Q]; by_cases hv : H2 s = true
 . rw [a4x hv] at c1; generalize (D3 s).1 = l at *; simp only [F2] at c1; cases l with
   | nil =>
     simp -implicitDefEqProofs; refine A0 c1 ?_; simp -implicitDefEqProofs [hv]
   | cons p l =>
     rw [if_pos hv]; dsimp only; have c2 := a3i l hf.tail; have hlen : ¬ ((l.length : Int) + 1 = 0) := (by omega); have htk : List.take l.length (l.map E9) = l.map E9 := ttl (by simp); generalize F9 l = G at *; obtain ⟨t, g⟩ := G; simp only [F2] at c2; simp -implicitDefEqProofs; refine A0 c1 ?_; simp -implicitDefEqProofs [hv, hlen, htk]; refine ⟨⟨rfl, by rintro _ x y _ rfl; rfl⟩, ?_⟩; refine A0 c2 ?_; simp -implicitDefEqProofs
 . simp only [F2] at c1; simp -implicitDefEqProofs; refine A0 c1 ?_; simp -implicitDefEqProofs [hv]
theorem a9h {l : List F8} {k : Nat} (h : k < l.length) : l.reverse[k]'(by simpa using h) = l[l.length - 1 - k]'(by omega) := by
 rw [getElem_reverse]
theorem c0V (l m : List F8) (k : Nat) (hk : k < l.length) (hk' : k < m.length) (hl : l.length < 1000000) (hm : m.length < 1000000) :
   Ctr prog 165 [.d (.int .i64 k), .d (.ref (F2 l)), .d (.ref (F2 m))] (.d (.int .i64 (Z5 (l[l.length - 1 - k]'(by omega)) (m[m.length - 1 - k]'(by omega))))) := by
 refine fv (fun i => i == 9000001) func165 (by kernel_rfl) rfl rfl rfl rfl rfl ?_; have i1 : (0 : Int) <= (l.length : Int) - 1 - k := (by omega); have i2 : (0 : Int) <= (m.length : Int) - 1 - k := (by omega); have e1 : ((l.length : Int) - 1 - k).toNat = l.length - 1 - k := (by omega); have e2 : ((m.length : Int) - 1 - k).toNat = m.length - 1 - k := (by omega); have b1 : l.length - 1 - k < l.length := (by omega); have b2 : m.length - 1 - k < m.length := (by omega); generalize hx : l[l.length - 1 - k] = x; generalize hy : m[m.length - 1 - k] = y; obtain ⟨x1, x2⟩ := x; obtain ⟨y1, y2⟩ := y; have c1 := a7f x1 y1; have c2 := a7f x2 y2; have c3 := a6x [R0 x1 y1, R0 x2 y2] (by simp); have hor : orI [R0 x1 y1, R0 x2 y2] = Z5 (x1, x2) (y1, y2) := by
   unfold Z5; simp only [orI]; by_cases h : R0 x1 y1 = 0
   . by_cases h' : R0 x2 y2 = 0 <;> simp [h, h']
   . simp [h]
 rw [hor] at c3; simp only [a2r, map_cons, map_nil] at c3; simp -implicitDefEqProofs [F2, i1, i2, e1, e2, b1, b2, hx, hy, E9]; (repeat refine ai (by omega) ?_); refine B6 c1 ?_; simp -implicitDefEqProofs; refine B6 c2 ?_; simp -implicitDefEqProofs; refine ⟨by decide, B6 c3 ?_⟩; simp -implicitDefEqProofs
theorem b2n {l m : List F8} {k : Nat} (hk : k < l.length) (hk' : k < m.length) : P1 (l.reverse.drop k) (m.reverse.drop k) =
   if Z5 (l[l.length - 1 - k]'(by omega)) (m[m.length - 1 - k]'(by omega)) = 0 then P1 (l.reverse.drop (k + 1)) (m.reverse.drop (k + 1)) else Z5 (l[l.length - 1 - k]'(by omega)) (m[m.length - 1 - k]'(by omega)) := by
 rw [drop_eq_getElem_cons (show k < l.reverse.length by simpa using hk), drop_eq_getElem_cons (show k < m.reverse.length by simpa using hk'), P1, a9h hk, a9h hk']
theorem b5L {l m : List F8} {k : Nat} (hk : k = min l.length m.length) : P1 (l.reverse.drop k) (m.reverse.drop k) = W1 l.length m.length := by
 rcases Nat.lt_trichotomy l.length m.length with h | h | h
 . have e1 : l.reverse.drop k = [] := drop_eq_nil_of_le (by simp; omega); rw [e1, drop_eq_getElem_cons (show k < m.reverse.length by simp; omega), P1, W1, if_pos (by omega)]
 . rw [drop_eq_nil_of_le (by simp; omega), drop_eq_nil_of_le (by simp; omega), P1, W1, if_neg (by omega), if_neg (by omega)]
 . have e1 : m.reverse.drop k = [] := drop_eq_nil_of_le (by simp; omega); rw [e1, drop_eq_getElem_cons (show k < l.reverse.length by simp; omega), P1, W1, if_neg (by omega), if_pos (by omega)]
theorem b7a (a b : Str) : R7 a b = if H2 a = true then (if H2 b = true then P1 (D3 a).1.reverse (D3 b).1.reverse else -1) else (if H2 b = true then 1 else R0 a b) := by
 rw [R7, a4t, a4t]; by_cases h1 : H2 a = true <;> by_cases h2 : H2 b = true <;> simp [h1, h2]
def CoI (l m : List F8) (R : Int) (k : Nat) (τ : St) : Prop := τ 9 = .d (.clo 165 [.ref (F2 l), .ref (F2 m)]) /\ τ 5 = .d (.ref (F2 l)) /\ τ 7 = .d (.ref (F2 m)) /\ τ 45 = .d (.int .i64 (min l.length m.length : Nat)) /\ τ 46 = .d (.int .i64 k) /\ P1 (l.reverse.drop k) (m.reverse.drop k) = R
theorem c5X (a b : Nat) : (if (b : Int) < a then (b : Int) else a) = ((min a b : Nat) : Int) := by
 split <;> omega
theorem b5Z (a b : Str) (ha : List.length a < 900000) (hb : List.length b < 900000) : Ctr prog 119 [.d (.str a), .d (.str b)] (.d (.int .i64 (R7 a b))) := by
 refine fv (fun i => false) func119 (by kernel_rfl) rfl rfl rfl rfl rfl ?_; have c1 := a2p a ha; have c2 := a2p b hb; have c3 := a7f a b; have f1 := (S2 a).1; have f2 := (S2 b).1; rw [b7a]; generalize (D3 a).1 = l at *; generalize (D3 b).1 = m at *; simp only [F2] at c1 c2; by_cases h1 : H2 a = true
 . by_cases h2 : H2 b = true
   . rw [if_pos h1, if_pos h2]; obtain ⟨R, hR⟩ : ∃ R, P1 l.reverse m.reverse = R := ⟨_, rfl⟩; rw [hR]; simp -implicitDefEqProofs; refine A0 c1 ?_; simp -implicitDefEqProofs; refine A0 c2 ?_; simp -implicitDefEqProofs [h1, h2, c5X]; refine F3 (min l.length m.length) (CoI l m R) ⟨by simp [F2], by simp [F2], by simp [F2], by simp; split <;> omega, by simp, by simpa using hR⟩ ?_; rintro k τ hk ⟨g9, g5, g7, g45, g46, hI⟩; by_cases hlt : k < min l.length m.length
     . have hk1 : k < l.length := (by omega); have hk2 : k < m.length := (by omega); have hlt' : (k : Int) < ((min l.length m.length : Nat) : Int) := (by omega); have c4 := c0V l m k hk1 hk2 f1 f2; rw [b2n hk1 hk2] at hI; simp only [F2] at c4; generalize Z5 (l[l.length - 1 - k]'(by omega)) (m[m.length - 1 - k]'(by omega)) = C at *; generalize hmn : min l.length m.length = N at *; by_cases h0 : C = 0
       . rw [if_pos h0] at hI; subst h0; simp -implicitDefEqProofs [g9, g5, g7, g45, g46, hlt']; refine A0 c4 ?_; simp -implicitDefEqProofs [g9, g5, g7, g45, g46, hlt']; (repeat refine ai (by omega) ?_); exact B8 hlt ⟨by simp [g9, F2], by simp [g5, F2], by simp [g7, F2], by simp [g45, hmn], by simp, hI⟩
       . rw [if_neg h0] at hI; rw [hI] at c4 h0; simp -implicitDefEqProofs [g9, g5, g7, g45, g46, hlt']; refine A0 c4 ?_; simp -implicitDefEqProofs [g9, g5, g7, g45, g46, hlt', h0]
     . have hke : k = min l.length m.length := (by omega); have hlt' : ¬ (k : Int) < ((min l.length m.length : Nat) : Int) := (by omega); have c4 := a8H l.length m.length; rw [b5L hke] at hI; rw [hI] at c4; generalize min l.length m.length = N at *; simp -implicitDefEqProofs [g9, g5, g7, g45, g46, hlt', F2]; refine A0 c4 ?_; simp -implicitDefEqProofs [g9, g5, g7, g45, g46]
   . simp -implicitDefEqProofs; refine A0 c1 ?_; simp -implicitDefEqProofs; refine A0 c2 ?_; simp -implicitDefEqProofs [h1, h2]
 . by_cases h2 : H2 b = true
   . simp -implicitDefEqProofs; refine A0 c1 ?_; simp -implicitDefEqProofs; refine A0 c2 ?_; simp -implicitDefEqProofs [h1, h2]
   . simp -implicitDefEqProofs; refine A0 c1 ?_; simp -implicitDefEqProofs; refine A0 c2 ?_; simp -implicitDefEqProofs [h1, h2]; refine A0 c3 ?_; simp -implicitDefEqProofs
def CrI (l m : List F8) (R : Int) (k : Nat) (τ : St) : Prop := τ 5 = .d (F2 l) /\ τ 7 = .d (F2 m) /\ τ 9 = .d (.int .i64 (k + 1 : Nat)) /\ P1 (l.reverse.drop k) (m.reverse.drop k) = R
theorem b5G (a b : Str) (ha : List.length a < 900000) (hb : List.length b < 900000) : Ctr prog 98 [.d (.str a), .d (.str b)] (.d (.int .i64 (R7 a b))) := by
 refine fv (fun i => i == 9000012) func98 (by kernel_rfl) rfl rfl rfl rfl rfl ?_; have c1 := a4T a ha; have c2 := a4T b hb; have c3 := a7u a b; have f1 := (a8Y a).1; have f2 := (a8Y b).1; have p1 := @a4x a; have p2 := @a4x b; rw [b7a]; generalize (D3 a).1 = l0 at *; generalize (D3 b).1 = m0 at *; generalize a2J a = l at *; generalize a2J b = m at *; simp only [F2] at c1 c2; by_cases h1 : H2 a = true
 . by_cases h2 : H2 b = true
   . rw [if_pos h1, if_pos h2]; obtain rfl := p1 h1; obtain rfl := p2 h2; obtain ⟨R, hR⟩ : ∃ R, P1 l.reverse m.reverse = R := ⟨_, rfl⟩; rw [hR]; simp -implicitDefEqProofs; refine A0 c1 ?_; simp -implicitDefEqProofs; refine A0 c2 ?_; simp -implicitDefEqProofs [h1, h2]; refine F3 (min l.length m.length) (CrI l m R) ⟨by simp [F2], by simp [F2], by simp, by simpa using hR⟩ ?_; rintro k τ hk ⟨g5, g7, g9, hI⟩; by_cases hlt : k < min l.length m.length
     . have hk1 : k < l.length := (by omega); have hk2 : k < m.length := (by omega); have l1 : (k : Int) + 1 <= (l.length : Int) := (by omega); have l2 : (k : Int) + 1 <= (m.length : Int) := (by omega); have i1 : (0 : Int) <= (l.length : Int) - (k + 1) := (by omega); have i2 : (0 : Int) <= (m.length : Int) - (k + 1) := (by omega); have e1 : ((l.length : Int) - (k + 1)).toNat = l.length - 1 - k := (by omega); have e2 : ((m.length : Int) - (k + 1)).toNat = m.length - 1 - k := (by omega); have b1 : l.length - 1 - k < l.length := (by omega); have b2 : m.length - 1 - k < m.length := (by omega); rw [b2n hk1 hk2] at hI; generalize hx : l[l.length - 1 - k]'(by omega) = x at *; generalize hy : m[m.length - 1 - k]'(by omega) = y at *; obtain ⟨x1, x2⟩ := x; obtain ⟨y1, y2⟩ := y; have c4 := a7u x1 y1; have c5 := a7u x2 y2; simp only [Z5] at hI; have z1 := @a1h x1 y1; have z2 := @a1h x2 y2; generalize R0 x1 y1 = U at *; generalize R0 x2 y2 = V at *; by_cases q1 : x1 = y1
       . have u0 := z1.2 q1; simp only [if_pos u0] at hI; by_cases q2 : x2 = y2
         . have v0 := z2.2 q2; rw [if_pos v0] at hI; simp -implicitDefEqProofs [g5, g7, g9, F2, l1, l2, i1, i2, e1, e2, b1, b2, hx, hy, E9, q1, q2]; (repeat refine ai (by omega) ?_); exact B8 hlt ⟨by simp [g5, F2], by simp [g7, F2], by simp, hI⟩
         . have v0 : ¬ V = 0 := fun e => q2 (z2.1 e)
           rw [if_neg v0] at hI; subst hI; simp -implicitDefEqProofs [g5, g7, g9, F2, l1, l2, i1, i2, e1, e2, b1, b2, hx, hy, E9, q1, q2]; (repeat refine ai (by omega) ?_); refine A0 c5 ?_; simp -implicitDefEqProofs
       . have u0 : ¬ U = 0 := fun e => q1 (z1.1 e)
         simp only [if_neg u0] at hI; subst hI; simp -implicitDefEqProofs [g5, g7, g9, F2, l1, l2, i1, i2, e1, e2, b1, b2, hx, hy, E9, q1]; (repeat refine ai (by omega) ?_); refine A0 c4 ?_; simp -implicitDefEqProofs
     . have hke : k = min l.length m.length := (by omega); rw [b5L hke] at hI; unfold W1 at hI; by_cases l1 : (k : Int) + 1 <= (l.length : Int)
       . have l2 : ¬ (k : Int) + 1 <= (m.length : Int) := (by omega); have l3 : ¬ (l.length : Int) < m.length := (by omega); have l4 : (m.length : Int) < l.length := (by omega); rw [if_neg l3, if_pos l4] at hI; subst hI; simp -implicitDefEqProofs [g5, g7, g9, F2, l1, l2, l3, l4]
       . by_cases l3 : (l.length : Int) < m.length
         . rw [if_pos l3] at hI; subst hI; simp -implicitDefEqProofs [g5, g7, g9, F2, l1, l3]
         . have l4 : ¬ (m.length : Int) < l.length := (by omega); rw [if_neg l3, if_neg l4] at hI; subst hI; simp -implicitDefEqProofs [g5, g7, g9, F2, l1, l3, l4]
   . simp -implicitDefEqProofs; refine A0 c1 ?_; simp -implicitDefEqProofs; refine A0 c2 ?_; simp -implicitDefEqProofs [h1, h2]
 . by_cases h2 : H2 b = true
   . simp -implicitDefEqProofs; refine A0 c1 ?_; simp -implicitDefEqProofs; refine A0 c2 ?_; simp -implicitDefEqProofs [h1, h2]
   . simp -implicitDefEqProofs; refine A0 c1 ?_; simp -implicitDefEqProofs; refine A0 c2 ?_; simp -implicitDefEqProofs [h1, h2]; refine A0 c3 ?_; simp -implicitDefEqProofs
abbrev VK := Str × Str
abbrev idC (c : Chg) : Str := c.2.2.1
abbrev opC (c : Chg) : Int := c.2.1
abbrev nmC (c : Chg) : Str := c.2.2.2.1
abbrev T1 (c : Chg) : VK := c.2.2.2.2
structure Abt where
 cr : Bool
 rm : Bool
 nm : Chg
 vs : List (VK × Chg)
def P3 : Abt := ⟨false, false, L5, []⟩
def ltM (a b : Chg) : Bool := decide (orI [R4 a.1 b.1, a0z (H0 a).1 (H0 b).1] < 0)
def M3 (a b : Chg) : Chg := if opC a = 0 \/ (opC b ≠ 0 /\ ltM a b = true) then b else a
def a0v (vs : List (VK × Chg)) (k : VK) : Option Chg := (vs.find? fun p => decide (p.1 = k)).map (·.2)
def a0R (vs : List (VK × Chg)) (k : VK) : Chg := (a0v vs k).getD L5
def a3B (vs : List (VK × Chg)) (k : VK) (c : Chg) : List (VK × Chg) := if vs.any (fun p => decide (p.1 = k)) then vs.map (fun p => if p.1 = k then (p.1, c) else p) else vs ++ [(k, c)]
def O7 (a : Abt) (c : Chg) : Abt :=
 if opC c = 1 then { a with cr := true, nm := M3 a.nm c }
 else if opC c = 3 then { a with nm := M3 a.nm c }
 else if opC c = 2 then { a with rm := true }
 else { a with vs := a3B a.vs (T1 c) (M3 (a0R a.vs (T1 c)) c) }
abbrev a3A := List (Str × Abt)
def Y5 (A : a3A) (id : Str) : Option Abt := (A.find? fun p => decide (p.1 = id)).map (·.2)
def a4q (A : a3A) (c : Chg) : a3A := if A.any (fun p => decide (p.1 = idC c)) then A.map (fun p => if p.1 = idC c then (p.1, O7 p.2 c) else p) else A ++ [(idC c, O7 P3 c)]
def S4 (R : List Chg) : a3A := R.foldl a4q []
theorem a5f (R : List Chg) (c : Chg) : S4 (R ++ [c]) = a4q (S4 R) c := by simp [S4]
theorem b2K {A : a3A} {id : Str} : Y5 A id = none ↔ ∀ p ∈ A, p.1 ≠ id := by
 simp [Y5, find?_eq_none]
theorem c0B {A : a3A} {id : Str} {a : Abt} (hn : (A.map (·.1)).Nodup) : Y5 A id = some a ↔ (id, a) ∈ A := by
 induction A with
 | nil => simp [Y5]
 | cons p A ih =>
   rw [map_cons, nodup_cons] at hn; by_cases h : p.1 = id
   . have : Y5 (p :: A) id = some p.2 := (by simp [Y5, h]); rw [this]; constructor
     . intro e; simp only [Option.some.injEq] at e; subst e; subst h; exact mem_cons.2 (.inl rfl)
     . intro e; rcases mem_cons.1 e with e | e
       . rw [<- e]
       . exact absurd (mem_map.2 ⟨_, e, rfl⟩) (by rw [<- h]; exact hn.1)
   . have : Y5 (p :: A) id = Y5 A id := (by simp [Y5, h]); rw [this, ih hn.2]; constructor
     . intro e; exact mem_cons_of_mem _ e
     . intro e; rcases mem_cons.1 e with e | e
       . exact absurd (by rw [<- e]) h
       . exact e
theorem c0c (A : a3A) (c : Chg) : (a4q A c).map (·.1) = if A.any (fun p => decide (p.1 = idC c)) then A.map (·.1) else A.map (·.1) ++ [idC c] := by
 unfold a4q; split
 . rw [map_map]; refine map_congr_left fun p _ => ?_
   simp only [Function.comp_apply]; split <;> rfl
 . simp
theorem b7D {A : a3A} (hn : (A.map (·.1)).Nodup) (c : Chg) : ((a4q A c).map (·.1)).Nodup := by
 rw [c0c]; split
 . exact hn
 . rename_i h
   refine nodup_append.2 ⟨hn, by simp, fun x hx z hz => ?_⟩; simp only [mem_singleton] at hz; subst hz; rintro rfl; obtain ⟨p, hp, e⟩ := mem_map.1 hx; exact h (any_eq_true.2 ⟨p, hp, by simpa using e⟩)
theorem a3W (R : List Chg) : ((S4 R).map (·.1)).Nodup := by
 have : ∀ (R : List Chg) (A : a3A), (A.map (·.1)).Nodup -> ((R.foldl a4q A).map (·.1)).Nodup := by
   intro R
   induction R with
   | nil => intro A h; exact h
   | cons c R ih => intro A h; exact ih _ (b7D h c)
 exact this R [] (by simp)
def abF (R : List Chg) (id : Str) : Abt := (R.filter fun c => decide (idC c = id)).foldl O7 P3
theorem a0J (R : List Chg) (c : Chg) (id : Str) : abF (R ++ [c]) id = if idC c = id then O7 (abF R id) c else abF R id := by
 unfold abF; by_cases h : idC c = id <;> simp [h]
theorem M2 {α : Type} {P : List α -> Prop} (h0 : P []) (h1 : ∀ l a, P l -> P (l ++ [a])) (l : List α) : P l := by
 have : ∀ l : List α, P l.reverse := fun l => by
   induction l with
   | nil => exact h0
   | cons a l ih => rw [reverse_cons]; exact h1 _ _ ih
 simpa using this l.reverse
theorem b5c (k : Str) (f : Abt -> Abt) (id : Str) : ∀ A : a3A, Y5 (A.map fun p => if p.1 = k then (p.1, f p.2) else p) id = if k = id then (Y5 A id).map f else Y5 A id
 | [] => by simp [Y5]
 | p :: A => by
   have ih := b5c k f id A; unfold Y5 at ih ⊢; rw [map_cons]; by_cases h1 : p.1 = k <;> by_cases h2 : p.1 = id
   . have : k = id := h1.symm.trans h2; simp [h1, h2, this]
   . have : ¬ k = id := fun e => h2 (h1.trans e)
     rw [if_neg this] at ih ⊢; simp [h1, h2, this]; simpa [h1] using ih
   . have : ¬ k = id := fun e => h1 (h2.trans e.symm)
     rw [if_neg h1, find?_cons_of_pos (by simpa using h2), find?_cons_of_pos (by simpa using h2), if_neg this]
   . rw [if_neg h1, find?_cons_of_neg (by simpa using h2), find?_cons_of_neg (by simpa using h2)]; exact ih
theorem b9M {A : a3A} (c : Chg) (id : Str) : Y5 (a4q A c) id = if idC c = id then some (O7 ((Y5 A id).getD P3) c) else Y5 A id := by
 unfold a4q; by_cases ha : A.any (fun p => decide (p.1 = idC c)) = true
 . rw [if_pos ha, b5c (idC c) (fun a => O7 a c) id A]; by_cases h : idC c = id
   . rw [if_pos h, if_pos h]; obtain ⟨p, hp, e⟩ := any_eq_true.1 ha; cases hg : Y5 A id with
     | none => exact absurd ((by simpa using e : p.1 = idC c).trans h) (b2K.1 hg p hp)
     | some a => rfl
   . rw [if_neg h, if_neg h]
 . rw [if_neg ha]; have hn : Y5 A (idC c) = none := b2K.2 fun p hp e => ha (any_eq_true.2 ⟨p, hp, by simpa using e⟩)
   by_cases h : idC c = id
   . rw [if_pos h]; rw [h] at hn; rw [hn]; unfold Y5 at hn ⊢; rw [find?_append]; cases hf : find? (fun p => decide (p.1 = id)) A with
     | some x => rw [hf] at hn; simp at hn
     | none => simp [h]
   . rw [if_neg h]; unfold Y5; rw [find?_append]; cases hf : find? (fun p => decide (p.1 = id)) A with
     | some x => simp
     | none => simp [h]
theorem c3H {R : List Chg} {id : Str} (h : R.any (fun c => decide (idC c = id)) = false) : abF R id = P3 := by
 have : R.filter (fun c => decide (idC c = id)) = [] := by
   rw [filter_eq_nil_iff]; intro c hc; have := any_eq_false.1 h c hc; exact this
 simp [abF, this]
theorem c2P (R : List Chg) (id : Str) : Y5 (S4 R) id = if R.any (fun c => decide (idC c = id)) then some (abF R id) else none := by
 refine M2 (P := fun R => Y5 (S4 R) id = if R.any (fun c => decide (idC c = id)) then some (abF R id) else none) rfl (fun R c ih => ?_) R; rw [a5f, b9M, ih, a0J, any_append]; by_cases h : idC c = id
 . rw [if_pos h, if_pos h]; cases ha : R.any (fun c => decide (idC c = id)) with
   | true => simp
   | false => simp [h, c3H ha]
 . simp only [h, if_false, any_cons, any_nil, decide_false, Bool.or_false]
theorem a6G {R : List Chg} {id : Str} {a : Abt} : (id, a) ∈ S4 R ↔ (∃ c ∈ R, idC c = id) /\ a = abF R id := by
 rw [<- c0B (a3W R), c2P]; by_cases h : R.any (fun c => decide (idC c = id)) = true
 . rw [if_pos h]; have h2 : ∃ c ∈ R, idC c = id := by
     obtain ⟨c, hc, e⟩ := any_eq_true.1 h; exact ⟨c, hc, by simpa using e⟩
   simp only [Option.some.injEq, h2, true_and]; exact eq_comm
 . rw [if_neg h]; simp only [reduceCtorEq, false_iff, not_and]; rintro ⟨c, hc, e⟩; exact absurd (any_eq_true.2 ⟨c, hc, by simpa using e⟩) h
def vkD (k : VK) : D := .agg [.str k.1, .str k.2]
def N0 (a : Abt) (x : D) : D := .agg [.bool a.cr, .bool a.rm, A3 a.nm, x]
abbrev W2 := Str × Abt × Nat × Nat
def vsM (vs : List (VK × Chg)) : List (D × D) := vs.map fun p => (vkD p.1, A3 p.2)
def R6 (R : List Chg) : List (D × D) := R.map fun c => (A3 c, D.bool true)
def Q4 (L : List W2) : List (D × D) := L.map fun e => (D.str e.1, D.raw (va e.2.2.1))
def a3b (e : W2) : List AV := [.hb (va e.2.2.1) 78 (N0 e.2.1 (.raw (.map (some e.2.2.2)))), .hm (.map (some e.2.2.2)) 101 (vsM e.2.1.vs) none]
def U2 (s r m : Nat) (R : List Chg) (L : List W2) : List AV :=
 [.hb (va s) 65 (.agg [.raw (.map (some r)), .raw (.map (some m))]), .hm (.map (some r)) 35 (R6 R) none, .hm (.map (some m)) 9 (Q4 L) none]
def stH (s r m : Nat) (R : List Chg) (L : List W2) : List AV := U2 s r m R L ++ L.flatMap a3b
def a0c (L : List W2) : a3A := L.map fun e => (e.1, e.2.1)
def AbD (a : Abt) (d : D) : Prop := ∃ u V bs clk, d = .ref (N0 a (.map u (V.map fun p => vkD p.1) (V.map fun p => A3 p.2) bs clk)) /\ Perm V a.vs
def StD (R : List Chg) (d : D) : Prop := ∃ u1 R1 bs1 c1 u2 bs2 c2, ∃ M : List (Str × Abt × D), d = .ref (.agg [.map u1 (R1.map A3) (R1.map fun _ => .bool true) bs1 c1, .map u2 (M.map fun x => .str x.1) (M.map fun x => x.2.2) bs2 c2]) /\
 Perm R1 R /\ Perm (M.map fun x => (x.1, x.2.1)) (S4 R) /\ ∀ x ∈ M, AbD x.2.1 x.2.2
theorem a2l {α β : Type} {f : α -> β} {m x : List β} (h : Perm m x) : ∀ {l : List α}, x = l.map f -> ∃ V, Perm V l /\ V.map f = m := by
 induction h with
 | nil => intro l e; cases l <;> simp at e; exact ⟨[], .nil, rfl⟩
 | cons a _ ih =>
   intro l e; cases l with
   | nil => simp at e
   | cons y l =>
     simp only [map_cons, List.cons.injEq] at e; obtain ⟨rfl, e⟩ := e; obtain ⟨V, h1, h2⟩ := ih e; exact ⟨y :: V, h1.cons y, by simp [h2]⟩
 | swap a b l2 =>
   intro l e; cases l with
   | nil => simp at e
   | cons y l =>
     cases l with
     | nil => simp at e
     | cons z l =>
       simp only [map_cons, List.cons.injEq] at e; obtain ⟨rfl, rfl, rfl⟩ := e; exact ⟨z :: y :: l, Perm.swap y z l, by simp⟩
 | trans _ _ ih1 ih2 =>
   intro l e; obtain ⟨V, h1, h2⟩ := ih2 e; obtain ⟨V', h3, h4⟩ := ih1 h2.symm; exact ⟨V', h3.trans h1, h4⟩
theorem a4e {P : Program} {w : World} {L : Nat -> Nat -> Prop} {hs : List AV} : ∀ ds : List D, LnL P w L hs ds ds
 | [] => .nil
 | d :: ds => .cons (.same d) (a4e ds)
theorem c5M {w : World} {L : Nat -> Nat -> Prop} {hs : List AV} (hr : ∀ x ∈ hs, RH prog w L x) {e : W2} (he : ∀ x ∈ a3b e, x ∈ hs) : ∃ d, AbD e.2.1 d /\ Ln prog w L hs (.raw (va e.2.2.1)) d := by
 have h1 := he (.hm (.map (some e.2.2.2)) 101 (vsM e.2.1.vs) none) (by simp [a3b]); have h2 := he (.hb (va e.2.2.1) 78 (N0 e.2.1 (.raw (.map (some e.2.2.2))))) (by simp [a3b]); obtain ⟨g, m', es, clk, k1, k2, k3, k4, k5, k6, _⟩ : a2a prog w L _ 101 (vsM e.2.1.vs) none (.map (some e.2.2.2)) := (hr _ h1).2; simp only [Value.map.injEq, Option.some.injEq] at k2; subst k2; obtain ⟨V, v1, v2⟩ := a2l k5 rfl; refine ⟨_, ⟨.map (some e.2.2.2), V, es.toList.map (·.born), clk, rfl, v1⟩, .box h2 ?_⟩; refine .agg (.cons (.same _) (.cons (.same _) (.cons (.same _) (.cons ?_ .nil)))); have := Ln.map (P := prog) h1 k3 k6 k5 (a4e _); rw [<- v2] at this; simpa [Function.comp_def] using this
theorem b7l {w : World} {L : Nat -> Nat -> Prop} {hs : List AV} (hr : ∀ x ∈ hs, RH prog w L x) : ∀ {E : List W2}, (∀ e ∈ E, ∀ x ∈ a3b e, x ∈ hs) ->
   ∃ M : List (Str × Abt × D), (M.map fun x => (x.1, x.2.1)) = a0c E /\ (M.map fun x => D.str x.1) = E.map (fun e => D.str e.1) /\ LnL prog w L hs (E.map fun e => .raw (va e.2.2.1)) (M.map fun x => x.2.2) /\ ∀ x ∈ M, AbD x.2.1 x.2.2
 | [], _ => ⟨[], rfl, rfl, .nil, by simp⟩
 | e :: E, he => by
   obtain ⟨M, m1, m2, m3, m4⟩ := b7l hr (E := E) (fun e' h' => he e' (by simp [h'])); obtain ⟨d, d1, d2⟩ := c5M hr (he e (by simp)); refine ⟨(e.1, e.2.1, d) :: M, by simp [a0c] at m1 ⊢; exact m1, by simp at m2 ⊢; exact m2, .cons d2 m3, fun x hx => ?_⟩; rcases mem_cons.1 hx with rfl | hx
   . exact d1
   . exact m4 x hx
theorem b5M {w : World} {L : Nat -> Nat -> Prop} {hs : List AV} (hr : ∀ x ∈ hs, RH prog w L x) {s r m : Nat} {R : List Chg} {E : List W2} (hE : a0c E = S4 R) (hh : ∀ x ∈ stH s r m R E, x ∈ hs) :
   ∃ d, StD R d /\ Ln prog w L hs (.raw (va s)) d := by
 have h0 := hh (.hb (va s) 65 (.agg [.raw (.map (some r)), .raw (.map (some m))])) (by simp [stH, U2]); have h1 := hh (.hm (.map (some r)) 35 (R6 R) none) (by simp [stH, U2]); have h2 := hh (.hm (.map (some m)) 9 (Q4 E) none) (by simp [stH, U2]); obtain ⟨g, m1, es1, c1, k1, k2, k3, k4, k5, k6, _⟩ : a2a prog w L _ 35 (R6 R) none (.map (some r)) := (hr _ h1).2; simp only [Value.map.injEq, Option.some.injEq] at k2; subst k2; obtain ⟨g, m2, es2, c2, q1, q2, q3, q4, q5, q6, _⟩ : a2a prog w L _ 9 (Q4 E) none (.map (some m)) := (hr _ h2).2; simp only [Value.map.injEq, Option.some.injEq] at q2; subst q2; obtain ⟨R1, r1, r2⟩ := a2l k5 rfl; obtain ⟨E1, e1, e2⟩ := a2l q5 rfl; obtain ⟨M, n1, n2, n3, n4⟩ := b7l hr (E := E1) (fun e he x hx => hh x (by
   simp only [stH, mem_append, mem_flatMap]; exact .inr ⟨e, e1.mem_iff.1 he, hx⟩))
 refine ⟨_, ⟨.map (some r), R1, es1.toList.map (·.born), c1, .map (some m), es2.toList.map (·.born), c2, M, rfl, r1, ?_, n4⟩, .box h0 (.agg (.cons ?_ (.cons ?_ .nil)))⟩
 . rw [n1, <- hE]; exact e1.map _
 . have := Ln.map (P := prog) h1 k3 k6 k5 (a4e _); rw [<- r2] at this; simpa [Function.comp_def] using this
 . have h3 : m2.map (·.2) = E1.map fun e => .raw (va e.2.2.1) := by rw [<- e2]; simp [Q4, Function.comp_def]
   have := Ln.map (P := prog) h2 q3 q6 q5 (by rw [h3]; exact n3); have h4 : m2.map (·.1) = M.map fun x => D.str x.1 := by rw [n2, <- e2]; simp [Q4, Function.comp_def]
   rw [h4] at this; exact this
end Go.Proofs.Tz
namespace Go.Proofs.Tz
open Go.Vw
theorem b7i (H : List AV) : ∀ rs : List Row, (∀ r ∈ rs, hnd r ∈ H) -> FzL H (rs.map a1r) ((rs.map nv).map att)
 | [], _ => .nil
 | r :: rs, h => .cons (.agg (.cons (.same _) (.cons (.sl (h r (by simp))) .nil))) (b7i H rs fun x hx => h x (by simp [hx]))
theorem b9D (l : List Att) (hl : a4m l) : Ctr prog 100 [.d (H6 l)] (.own true 72 ((G5 l).map att)) := by
 refine (b7Y l hl).frozen (by simp) ?_; rintro r hs ⟨rs, rfl, rfl, hp, ha⟩; refine ⟨_, rfl, ?_⟩; have := b2P l (rs.map nv) hp (fun i j hij hj => by
   have := ha i j hij (by simpa using hj); simpa [nv] using this)
 rw [<- this]; exact b7i _ rs fun r hr => mem_map.2 ⟨r, hr, rfl⟩
theorem c0I (a b : List Att) (ha : a4m a) (hb : a4m b) (ha' : b1J (G5 a)) (hb' : b1J (G5 b)) : Ctr prog 26 [.d (H6 a), .d (H6 b)] (.d (.bool (decide (G5 a = G5 b)))) := by
 refine fv (fun _ => false) func26 (by kernel_rfl) rfl rfl rfl rfl rfl ?_; simp -implicitDefEqProofs; refine A0 (a6T a ha) ?_; simp -implicitDefEqProofs; refine A0 (a6T b hb) ?_; simp -implicitDefEqProofs; refine A0 (c3n _ _ ha' hb') ?_; simp -implicitDefEqProofs
theorem b9u (g : FuncId) (cs : List D) (hcs : (cs.all fun c => !c.isAgg) = true) (p : Str -> Bool) (l : List Str) (hl : l.length < 1000000) (hp : ∀ a ∈ l, Ctr prog g ([.d (.str a)] ++ cs.map .d) (.d (.bool (p a)))) :
   Ctr prog 115 [.d (B0 l), .d (.clo g cs)] (.d (.int .i64 (a2y p 0 l))) := by
 refine fv (fun _ => false) func115 (by kernel_rfl) rfl rfl rfl rfl rfl ?_; simp -implicitDefEqProofs [B0]; refine F3 l.length (fun k τ => τ 0 = .d (B0 l) /\ τ 1 = .d (.clo g cs) /\ τ 7 = .d (.int .i64 l.length) /\ τ 8 = .d (.int .i64 k) /\ a2y p 0 l = a2y p k (l.drop k)) (by simp [B0]) ?_; rintro k τ hk ⟨h0, h1, h7, h8, hi⟩; by_cases hlt : k < l.length
 . rw [b9k hlt] at hi; have hf := hp _ (gmm hlt); simp only [cons_append, nil_append] at hf; simp -implicitDefEqProofs [h0, h1, h7, h8, B0, hlt]; refine ⟨by simpa using hcs, A0 hf ?_⟩; by_cases he : p l[k] = true
   . simp -implicitDefEqProofs [h0, h1, h7, h8, B0, hlt, he]; rw [hi, if_pos he]
   . simp -implicitDefEqProofs [h0, h1, h7, h8, B0, hlt, he]; refine ⟨by omega, B8 hlt ⟨by simp [h0, B0], by simp [h1], by simp [h7], by simp, ?_⟩⟩; rw [hi, if_neg he]
 . simp -implicitDefEqProofs [h0, h1, h7, h8, B0, hlt]; rw [hi, drop_eq_nil_of_le (by omega)]; simp -implicitDefEqProofs [a2y]
theorem b5m {α : Type} (p : α -> Bool) : ∀ (l : List α) (k : Nat), a2y p k l = -1 -> l.filter (fun x => !p x) = l
 | [], k, _ => rfl
 | x :: l, k, h => by
   rw [a2y] at h; by_cases hx : p x = true
   . rw [if_pos hx] at h; omega
   . rw [if_neg hx] at h; simp -implicitDefEqProofs [hx, b5m p l (k + 1) h]
theorem b4I {α : Type} (p : α -> Bool) : ∀ (l : List α) (k : Nat), a2y p k l ≠ -1 -> ∃ i : Nat, a2y p k l = ((k + i : Nat) : Int) /\ i < l.length /\ (l.take i).filter (fun x => !p x) = l.take i /\ (l.take (i + 1)).filter (fun x => !p x) = l.take i
 | [], k, h => absurd rfl h
 | x :: l, k, h => by
   rw [a2y] at h ⊢; by_cases hx : p x = true
   . rw [if_pos hx]; exact ⟨0, by simp, by simp, by simp, by simp [hx]⟩
   . rw [if_neg hx] at h ⊢; obtain ⟨i, h1, h2, h3, h4⟩ := b4I p l (k + 1) h; refine ⟨i + 1, by rw [h1]; omega, by simpa using h2, ?_, ?_⟩
     . simp -implicitDefEqProofs [hx, h3]
     . rw [take_succ_cons, filter_cons, if_pos (by simp [hx]), h4, take_succ_cons]
end Go.Proofs.Tz
namespace Go.Proofs.Tz
open Go.Vw Go.Lib
theorem b5W (l : List Att) : (G5 l).Perm (((grp l).filter a3D).map a1X) := by
 have hp : ((((grp l).filter a3D).map a1X).mergeSort fun a b => decide (a.1 <= b.1)).Perm (((grp l).filter a3D).map a1X) := mergeSort_perm _ _; have hs := pairwise_mergeSort (le := fun a b : Att => decide (a.1 <= b.1)) (fun a b c h1 h2 => by
   simp only [decide_eq_true_eq] at *; exact List.le_trans h1 h2) (fun a b => by
   simp only [Bool.or_eq_true, decide_eq_true_eq]; exact List.le_total a.1 b.1) (((grp l).filter a3D).map a1X)
 rw [<- b2P l _ hp (fun i j hij hj => by
   have := pairwise_iff_getElem.1 hs i j (by omega) hj hij; rw [a5r]; simpa using this)]
 exact hp
theorem b5X (l : List Str) : (compact l).length <= l.length := by
 have key : ∀ m, (compactUpTo l.toArray m).length <= m := by
   intro m
   induction m with
   | zero => simp [compactUpTo]
   | succ m ih =>
     rw [compactUpTo_succ]; split <;> simp <;> omega
 exact key l.length
theorem b8t {a b : List Att} (h : a.Perm b) : H8 a = H8 b := (h.map _).sum_nat
theorem b7w (l : List Att) : H8 ((l.filter a3D).map a1X) <= H8 l := by
 induction l with
 | nil => simp [H8]
 | cons a l ih =>
   have hc := b5X (I3 a.2); have hs : (I3 a.2).length = a.2.length := (by simp [I3]); rw [filter_cons]; split
   . simp only [map_cons, H8, sum_cons] at ih ⊢; simp only [a1X]; omega
   . simp only [H8, map_cons, sum_cons] at ih ⊢; omega
theorem a7K (l : List Att) : H8 (G5 l) <= H8 l := by
 rw [b8t (b5W l), <- a8d l]; exact b7w _
theorem a8S {l : List Att} {x : Att} (h : x ∈ G5 l) : ∃ a ∈ l, a.2 ≠ [] /\ D2 a.1 = x.1 := by
 obtain ⟨n, hn, rfl⟩ := mem_map.1 h; have hN := (a0V l [] (by simp [SS])).2 n; rw [show l.foldl Y0 [] = W7 l from rfl] at hN; rcases hN.1 hn with h | h
 . simp at h
 . exact h
theorem b7R {l : List Att} {x : Att} (h : x ∈ G5 l) {v : Str} (hv : v ∈ x.2) : ∃ a ∈ l, D2 a.1 = x.1 /\ v ∈ a.2 := by
 obtain ⟨n, hn, rfl⟩ := mem_map.1 h; have hV := (a0N n l [] (by simp [SS])).2 v; rw [show l.foldl (a0O n) [] = a0u l n from rfl] at hV; rcases hV.1 hv with h | h
 . simp at h
 . exact h
theorem b5Y {l : List Att} (hl : a4m l) : a4m (G5 l) := by
 refine ⟨⟨Nat.lt_of_le_of_lt (b8s l) hl.1.1, fun x hx => ⟨?_, ?_⟩⟩, Nat.lt_of_le_of_lt (a7K l) hl.2⟩
 . obtain ⟨a, ha, _, e⟩ := a8S hx; rw [<- e, N9]; exact (hl.1.2 a ha).1
 . have h1 := a7C hx; have h2 := a7K l; have h3 := hl.2; omega
def b1T (l : List Att) (n v : Str) : Prop := ∃ a ∈ l, D2 a.1 = n /\ v ∈ a.2
structure NF (s : List Att) : Prop where
 names : SS (s.map (·.1))
 vals : ∀ x ∈ s, SS x.2
 ne : ∀ x ∈ s, x.2 ≠ []
theorem c0H (c : UInt8) : a0H (a0H c) = a0H c := by
 unfold a0H; by_cases h : 65 <= (c.toNat : Int) /\ (c.toNat : Int) <= 90
 . rw [if_pos h, if_neg]; rw [UInt8.toNat_add]; have : (32 : UInt8).toNat = 32 := rfl; omega
 . rw [if_neg h, if_neg h]
theorem b6e (s : Str) : D2 (D2 s) = D2 s := by simp [D2, c0H]
theorem b2M (l : List Att) : NF (G5 l) := by
 have hN := a0V l [] (by simp [SS]); refine ⟨?_, fun x hx => ?_, fun x hx => ?_⟩
 . rw [G5, map_map]; rw [show ((fun x : Att => x.1) ∘ fun n => (n, a0u l n)) = id from rfl, map_id]; exact hN.1
 . obtain ⟨n, _, rfl⟩ := mem_map.1 hx; exact (a0N n l [] (by simp [SS])).1
 . obtain ⟨n, hn, rfl⟩ := mem_map.1 hx; have hV := (a0N n l [] (by simp [SS])).2; rcases (hN.2 n).1 hn with h | ⟨a, ha, hne, e⟩
   . simp at h
   . obtain ⟨v, hv⟩ := exists_mem_of_ne_nil _ hne; exact ne_nil_of_mem ((hV v).2 (.inr ⟨a, ha, e, hv⟩))
theorem a6Z (l : List Att) (n v : Str) : Has (G5 l) n v ↔ b1T l n v := by
 have hN := a0V l [] (by simp [SS]); constructor
 . rintro ⟨x, hx, rfl, hv⟩; obtain ⟨a, ha, e, h⟩ := b7R hx hv; exact ⟨a, ha, e, h⟩
 . rintro ⟨a, ha, e, hv⟩; refine ⟨(n, a0u l n), mem_map.2 ⟨n, ?_, rfl⟩, rfl, ?_⟩
   . exact (hN.2 n).2 (.inr ⟨a, ha, ne_nil_of_mem hv, e⟩)
   . exact ((a0N n l [] (by simp [SS])).2 v).2 (.inr ⟨a, ha, e, hv⟩)
theorem a8f {α : Type} {l : List α} (h : l.Nodup) {i j : Nat} (hi : i < l.length) (hj : j < l.length) (e : l[i] = l[j]) : i = j := by
 have h1 := pairwise_iff_getElem.1 h; rcases Nat.lt_trichotomy i j with h2 | h2 | h2
 . exact absurd e (h1 i j hi hj h2)
 . exact h2
 . exact absurd e.symm (h1 j i hj hi h2)
theorem b9v {s : List Att} (hs : NF s) {x y : Att} (hx : x ∈ s) (hy : y ∈ s) (h : x.1 = y.1) : x = y := by
 have hnd := hs.names.nodup; obtain ⟨i, hi, rfl⟩ := mem_iff_getElem.1 hx; obtain ⟨j, hj, rfl⟩ := mem_iff_getElem.1 hy; have := a8f hnd (i := i) (j := j) (by simpa using hi) (by simpa using hj) (by simpa using h); subst this; rfl
theorem c6h {s t : List Att} (hs : NF s) (ht : NF t) (h : ∀ n v, Has s n v ↔ Has t n v) : s = t := by
 have e1 : s.map (·.1) = t.map (·.1) := by
   refine a5C hs.names ht.names fun n => ?_
   constructor
   . intro hn; obtain ⟨x, hx, rfl⟩ := mem_map.1 hn; obtain ⟨v, hv⟩ := exists_mem_of_ne_nil _ (hs.ne x hx); obtain ⟨y, hy, e, _⟩ := (h x.1 v).1 ⟨x, hx, rfl, hv⟩; exact mem_map.2 ⟨y, hy, e⟩
   . intro hn; obtain ⟨x, hx, rfl⟩ := mem_map.1 hn; obtain ⟨v, hv⟩ := exists_mem_of_ne_nil _ (ht.ne x hx); obtain ⟨y, hy, e, _⟩ := (h x.1 v).2 ⟨x, hx, rfl, hv⟩; exact mem_map.2 ⟨y, hy, e⟩
 have hl : s.length = t.length := by simpa using congrArg List.length e1
 refine ext_getElem hl fun i h1 h2 => ?_
 have en : s[i].1 = t[i].1 := by
   have := getElem_of_eq e1 (i := i) (by simpa using h1); simpa using this
 refine Prod.ext en ?_; refine a5C (hs.vals _ (gmm h1)) (ht.vals _ (gmm h2)) fun v => ?_
 constructor
 . intro hv; obtain ⟨y, hy, e, hv⟩ := (h s[i].1 v).1 ⟨_, gmm h1, rfl, hv⟩; rw [<- b9v ht hy (gmm h2) (e.trans en)]; exact hv
 . intro hv; obtain ⟨y, hy, e, hv⟩ := (h t[i].1 v).2 ⟨_, gmm h2, rfl, hv⟩; rw [<- b9v hs hy (gmm h1) (e.trans en.symm)]; exact hv
theorem a6F {a b : List Att} (h : ∀ n v, b1T a n v ↔ b1T b n v) : G5 a = G5 b :=
 c6h (b2M a) (b2M b) fun n v => by rw [a6Z, a6Z, h]
theorem b0k {l : List Att} {x : Att} (h : x ∈ G5 l) : D2 x.1 = x.1 := by
 obtain ⟨a, _, _, e⟩ := a8S h; rw [<- e, b6e]
theorem b6l (l : List Att) (n v : Str) : b1T (G5 l) n v ↔ b1T l n v := by
 rw [<- a6Z l n v]; constructor
 . rintro ⟨x, hx, e, hv⟩; exact ⟨x, hx, (b0k hx).symm.trans e, hv⟩
 . rintro ⟨x, hx, e, hv⟩; exact ⟨x, hx, (b0k hx).trans e, hv⟩
theorem b6q (l : List Att) : G5 (G5 l) = G5 l := a6F (b6l l)
end Go.Proofs.Tz
namespace Go.Proofs.Tz
open Go.Vw Go.RowKit Go.Proofs Go.Sort
structure a1n (K ss : List Str) (seen : List D) : Prop where
 eq : seen = ss.map .str
 nd : ss.Nodup
 sub : ∀ s ∈ ss, s ∈ K
theorem a1n.nil (K : List Str) : a1n K [] [] := ⟨rfl, nodup_nil, by simp⟩
theorem a1n.mem {K ss : List Str} {seen : List D} (h : a1n K ss seen) {s : Str} : D.str s ∈ seen ↔ s ∈ ss := by
 rw [h.eq]; simp
theorem a1n.next {K ss : List Str} {seen : List D} (h : a1n K ss seen) {s : Str} (hs : s ∈ K) (hn : D.str s ∉ seen) : a1n K (ss ++ [s]) (seen ++ [.str s]) := by
 rw [h.mem] at hn; refine ⟨by rw [h.eq]; simp, ?_, ?_⟩
 . rw [nodup_append]; refine ⟨h.nd, by simp, ?_⟩; intro a ha b hb; simp only [mem_singleton] at hb; subst hb; rintro rfl; exact hn ha
 . intro x hx; rcases mem_append.1 hx with hx | hx
   . exact h.sub x hx
   . simp only [mem_singleton] at hx; subst hx; exact hs
theorem a1n.le {K ss : List Str} {seen : List D} (h : a1n K ss seen) (hK : K.Nodup) : ss.length <= K.length := by
 have hp : ss.Perm (K.filter fun s => decide (s ∈ ss)) := (perm_ext_iff_of_nodup h.nd (hK.filter _)).2 fun s => by
   simp only [mem_filter, decide_eq_true_eq]; exact ⟨fun hs => ⟨h.sub s hs, hs⟩, fun hs => hs.2⟩
 rw [hp.length_eq]; exact length_filter_le _ _
theorem a1n.lt {K ss : List Str} {seen : List D} (h : a1n K ss seen) (hK : K.Nodup) {s : Str} (hs : s ∈ K) (hn : D.str s ∉ seen) : ss.length < K.length := by
 have := (h.next hs hn).le hK; simp only [length_append, length_singleton] at this; omega
theorem a1n.all {K ss : List Str} {seen : List D} (h : a1n K ss seen) (hK : K.Nodup) (ha : ∀ s ∈ K, D.str s ∈ seen) : ss.Perm K :=
 (perm_ext_iff_of_nodup h.nd hK).2 fun s => ⟨h.sub s, fun hs => h.mem.1 (ha s hs)⟩
theorem a1R {α : Type} (f : α -> Bool) (l : List α) (x : α) : (l ++ [x]).filter f = l.filter f ++ (if f x = true then [x] else []) := by
 rw [filter_append]; by_cases h : f x = true <;> simp [h]
abbrev a0D := Str × Abt × D
def U3 (u1 : Value) (R1 : List Chg) (bs1 : List Nat) (c1 : Nat) (u2 : Value) (M : List a0D) (bs2 : List Nat) (c2 : Nat) : D :=
 .ref (.agg [.map u1 (R1.map A3) (R1.map fun _ => .bool true) bs1 c1, .map u2 (M.map fun x => .str x.1) (M.map fun x => x.2.2) bs2 c2])
structure MR (R : List Chg) (M : List a0D) : Prop where
 perm : Perm (M.map fun x => (x.1, x.2.1)) (S4 R)
 ab : ∀ x ∈ M, AbD x.2.1 x.2.2
theorem StD.open {R : List Chg} {d : D} (h : StD R d) : ∃ u1 R1 bs1 c1 u2 M bs2 c2, d = U3 u1 R1 bs1 c1 u2 M bs2 c2 /\ Perm R1 R /\ MR R M := by
 obtain ⟨u1, R1, bs1, c1, u2, bs2, c2, M, h1, h2, h3, h4⟩ := h; exact ⟨u1, R1, bs1, c1, u2, M, bs2, c2, h1, h2, h3, h4⟩
theorem MR.keys {R : List Chg} {M : List a0D} (h : MR R M) : Perm (M.map (·.1)) ((S4 R).map (·.1)) := by
 have := h.perm.map (·.1); simpa [Function.comp_def] using this
theorem MR.nodup {R : List Chg} {M : List a0D} (h : MR R M) : (M.map (·.1)).Nodup := h.keys.nodup_iff.2 (a3W R)
theorem MR.has {R : List Chg} {M : List a0D} (h : MR R M) {c : Chg} (hc : c ∈ R) : ∃ d, (idC c, abF R (idC c), d) ∈ M /\ AbD (abF R (idC c)) d := by
 have : (idC c, abF R (idC c)) ∈ M.map fun x => (x.1, x.2.1) := h.perm.mem_iff.2 (a6G.2 ⟨⟨c, hc, rfl⟩, rfl⟩)
 obtain ⟨x, hx, e⟩ := mem_map.1 this; obtain ⟨i, a, d⟩ := x; simp only [Prod.mk.injEq] at e; obtain ⟨rfl, rfl⟩ := e; exact ⟨d, hx, h.ab _ hx⟩
def a8r (M : List a0D) : List (D × D) := M.map fun x => (D.str x.1, x.2.2)
theorem a6e (M : List a0D) : (M.map fun x => D.str x.1).zip (M.map fun x => x.2.2) = a8r M := by
 induction M with
 | nil => rfl
 | cons x M ih => simp only [map_cons, zip_cons_cons, ih, a8r]
theorem L3 (a b : Str) : I4 (.str a) (.str b) = decide (a = b) := rfl
theorem c0o {M : List a0D} (hn : (M.map (·.1)).Nodup) {id : Str} {a : Abt} {d : D} (h : (id, a, d) ∈ M) : M6 (a8r M) (.str id) = some d := by
 induction M with
 | nil => simp at h
 | cons x M ih =>
   rw [map_cons, nodup_cons] at hn; rcases mem_cons.1 h with rfl | h
   . simp [M6, a8r, L3]
   . have hne : ¬ x.1 = id := fun e => hn.1 (mem_map.2 ⟨_, h, e.symm⟩)
     have := ih hn.2 h; simp only [M6, a8r, map_cons, find?_cons, L3, decide_eq_false hne] at this ⊢; exact this
theorem a2U (u1 : Value) (R1 : List Chg) (bs1 : List Nat) (c1 : Nat) (u2 : Value) (M : List a0D) (bs2 : List Nat) (c2 : Nat) : Ctr prog 39 [.d (U3 u1 R1 bs1 c1 u2 M bs2 c2)] (.d (.bool true)) := by
 refine fv (fun _ => false) func39 (by kernel_rfl) rfl rfl rfl rfl rfl ?_; simp -implicitDefEqProofs [U3]
def a1V (a : Abt) : Bool := a.cr && !a.rm
def a2M (R : List Chg) : List Str := ((S4 R).filter fun p => a1V p.2).map (·.1)
def A9 (R : List Chg) : List Str := I3 (a2M R)
def a0j (M : List a0D) (s : Str) : Bool := M.any fun x => decide (x.1 = s) && a1V x.2.1
theorem b0A {l m : List Str} (h : l.Perm m) : I3 l = I3 m := by
 unfold I3; refine Perm.eq_of_pairwise (le := fun x y => decide (x <= y) = true) (fun a b _ _ x y => List.le_antisymm (by simpa using x) (by simpa using y)) ?_ ?_ ((mergeSort_perm _ _).trans (h.trans (mergeSort_perm _ _).symm))
 . exact pairwise_mergeSort (fun a b c h1 h2 => by simp at h1 h2 ⊢; exact List.le_trans h1 h2) (fun a b => by simp; exact List.le_total a b) _
 . exact pairwise_mergeSort (fun a b c h1 h2 => by simp at h1 h2 ⊢; exact List.le_trans h1 h2) (fun a b => by simp; exact List.le_total a b) _
theorem b4b {M : List a0D} (hn : (M.map (·.1)).Nodup) {x : a0D} (hx : x ∈ M) : a0j M x.1 = a1V x.2.1 := by
 unfold a0j; cases h : a1V x.2.1 with
 | true => exact any_eq_true.2 ⟨x, hx, by simp [h]⟩
 | false =>
   rw [any_eq_false]; intro y hy e; simp only [Bool.and_eq_true, decide_eq_true_eq] at e; have : y = x := by
     obtain ⟨i, hi, e1⟩ := getElem_of_mem hy; obtain ⟨j, hj, e2⟩ := getElem_of_mem hx; have := a8f hn (i := i) (j := j) (by simpa using hi) (by simpa using hj) (by simp [e1, e2, e.1]); subst this; rw [<- e1, <- e2]
   rw [this, h] at e; simp at e
theorem c0O {R : List Chg} {M : List a0D} (h : MR R M) : ((M.map (·.1)).filter (a0j M)).Perm (a2M R) := by
 have h1 : (M.map (·.1)).filter (a0j M) = ((M.map fun x => (x.1, x.2.1)).filter fun p => a1V p.2).map (·.1) := by
   have : ∀ N : List a0D, (∀ x ∈ N, x ∈ M) -> (N.map (·.1)).filter (a0j M) = ((N.map fun x => (x.1, x.2.1)).filter fun p => a1V p.2).map (·.1) := by
     intro N
     induction N with
     | nil => intro _; rfl
     | cons x N ih =>
       intro hN; have e := b4b h.nodup (hN x (by simp)); rw [map_cons, filter_cons, map_cons, filter_cons, e, ih (fun y hy => hN y (by simp [hy]))]; by_cases hb : a1V x.2.1 = true <;> simp [hb]
   exact this M fun _ h => h
 rw [h1]; exact (h.perm.filter _).map _
theorem c3j {M : List a0D} {k v : D} (h : (k, v) ∈ a8r M) : ∃ x ∈ M, k = .str x.1 /\ v = x.2.2 := by
 obtain ⟨x, hx, e⟩ := mem_map.1 h; simp only [Prod.mk.injEq] at e; exact ⟨x, hx, e.1.symm, e.2.symm⟩
theorem c1I {M : List a0D} {seen : List D} (h : ∀ p ∈ a8r M, p.1 ∈ seen) : ∀ s ∈ M.map (·.1), D.str s ∈ seen := by
 intro s hs; obtain ⟨x, hx, rfl⟩ := mem_map.1 hs; exact h (.str x.1, x.2.2) (mem_map.2 ⟨x, hx, rfl⟩)
theorem b0T (M : List a0D) : ∀ k ∈ M.map (fun x => D.str x.1), I4 k k = true := by
 intro k hk; obtain ⟨x, _, rfl⟩ := mem_map.1 hk; simp [L3]
def LvI (sd : D) (u2 : Value) (M : List a0D) (bs2 : List Nat) (c2 : Nat) (k : Nat) (τ : St) : Prop := ∃ ss seen, a1n (M.map (·.1)) ss seen /\ ss.length = k /\ τ 0 = .d sd /\ τ 3 = .own true 9 ((ss.filter (a0j M)).map .str) /\
 τ 12 = .d (.map u2 (M.map fun x => .str x.1) (M.map fun x => x.2.2) bs2 c2) /\ τ 13 = .mit u2 ((M.map fun x => D.str x.1).zip bs2, c2) seen
theorem a4f (R : List Chg) (d : D) (hd : StD R d) (hl : (S4 R).length < 100000) : Ctr prog 27 [.d d] (.own true 9 ((A9 R).map .str)) := by
 obtain ⟨u1, R1, bs1, c1, u2, M, bs2, c2, rfl, hR1, hM⟩ := hd.open; have hml : M.length < 100000 := by have := hM.perm.length_eq; simp at this; omega
 have hlive : I3 ((M.map (·.1)).filter (a0j M)) = A9 R := b0A (c0O hM); rw [<- hlive]; refine fv (fun i => i == 2 || i == 3 || i == 33 || i == 3000035) func27 (by kernel_rfl) rfl rfl rfl rfl rfl ?_; simp -implicitDefEqProofs; refine A0 (a2U u1 R1 bs1 c1 u2 M bs2 c2) ?_; simp -implicitDefEqProofs [U3]; obtain ⟨sd, hsd⟩ : ∃ sd, U3 u1 R1 bs1 c1 u2 M bs2 c2 = sd := ⟨_, rfl⟩; refine F3 M.length (LvI sd u2 M bs2 c2) ⟨[], [], a1n.nil _, rfl, by simp [<- hsd, U3], by simp, by simp, by simp⟩ ?_; rintro k τ hk ⟨ss, seen, hS, hsl, g0, g3, g12, g13⟩; have hfs : ∀ s, (ss ++ [s]).filter (a0j M) = _ := a1R (a0j M) ss; have hll : (ss.filter (a0j M)).length <= M.length := by
   have h1 := length_filter_le (a0j M) ss; have h2 := hS.le hM.nodup; simp only [length_map] at h2; omega
 simp -implicitDefEqProofs [g0, g3, g12, g13]; refine c6i (vs := M.map fun x => x.2.2) 12 (by simp [g12]) (b0T M) (fun x v hm hn => ?_) (fun hall => ?_)
 . rw [a6e] at hm; obtain ⟨x, hx, rfl, rfl⟩ := c3j hm; have hin : x.1 ∈ M.map (·.1) := mem_map.2 ⟨x, hx, rfl⟩; have hS2 := hS.next hin hn; have hlt := hS.lt hM.nodup hin hn; rw [hsl, length_map] at hlt; have hlv := b4b hM.nodup hx; have hfx := hfs x.1; rw [hlv] at hfx; obtain ⟨u, V, bs, clk, hd1, hV⟩ := hM.ab x hx; rw [<- a6e] at hm; simp -implicitDefEqProofs [g0, g3, g12, g13]; refine c5W (vs := M.map fun x => x.2.2) 12 (by simp [g12]) (b0T M) hm ?_; rw [hd1]; generalize hT2 : (ss ++ [x.1]).filter (a0j M) = T2 at *; generalize hT : ss.filter (a0j M) = T at *; have hli : a1V x.2.1 = (x.2.1.cr && !x.2.1.rm) := rfl; cases hcr : x.2.1.cr <;> cases hrm : x.2.1.rm <;> rw [hcr, hrm] at hli <;> simp only [hli] at hfx <;> simp at hfx
   all_goals simp -implicitDefEqProofs [g0, g3, g12, g13, N0, hcr, hrm]
   all_goals first
     | (refine B8 hlt ⟨ss ++ [x.1], seen ++ [.str x.1], hS2, by simp [hsl], by simp [g0], by simp [g3, hT2, hfx], by simp [g12], by simp⟩; done)
     | (repeat refine ai (by omega) ?_
        exact B8 hlt ⟨ss ++ [x.1], seen ++ [.str x.1], hS2, by simp [hsl], by simp [g0], by simp [hT2, hfx], by simp [g12], by simp⟩)
 . rw [a6e] at hall; have hp := (hS.all hM.nodup (c1I hall)).filter (a0j M); have c1 := b1X (ss.filter (a0j M)) (by omega); rw [b0A hp] at c1; generalize ss.filter (a0j M) = T at *; generalize I3 ((M.map (·.1)).filter (a0j M)) = T2 at *; simp -implicitDefEqProofs [g0, g3, g12, g13]; refine b8a c1 ?_; simp -implicitDefEqProofs [g0, g3, g12, g13]
def G2 (R : List Chg) (id : Str) : Str := nmC (abF R id).nm
abbrev SM := List (Str × Str)
def P0 (m : SM) : List (D × D) := m.map fun p => (D.str p.1, D.str p.2)
def J1 (m : SM) (k : Str) : Option Str := (m.find? fun p => decide (p.1 = k)).map (·.2)
def P2 (R : List Chg) (l : List Str) : SM := l.foldl (fun m id => if (J1 m (G2 R id)).isSome then m else m ++ [(G2 R id, id)]) []
theorem a7S (R : List Chg) (l : List Str) (id : Str) : P2 R (l ++ [id]) = if (J1 (P2 R l) (G2 R id)).isSome then P2 R l else P2 R l ++ [(G2 R id, id)] := by unfold P2; rw [foldl_append]; rfl
theorem a3w (m : SM) (k : Str) : M6 (P0 m) (.str k) = (J1 m k).map .str := by
 induction m with
 | nil => rfl
 | cons p m ih =>
   simp only [M6, P0, J1, map_cons, find?_cons, L3] at ih ⊢; by_cases h : p.1 = k
   . simp [h]
   . simp only [decide_eq_false h]; exact ih
theorem a7a {m : SM} {k v : Str} (h : J1 m k = none) : S1 (P0 m) (.str k) (.str v) = P0 (m ++ [(k, v)]) := by
 have : (P0 m).any (fun p => I4 p.1 (.str k)) = false := by
   rw [any_eq_false]; intro p hp; obtain ⟨q, hq, rfl⟩ := mem_map.1 hp; simp only [J1, Option.map_eq_none_iff, find?_eq_none] at h; simpa [L3] using h q hq
 unfold S1; rw [this]; simp [P0]
theorem A1 (c : Csn) : C0 (A4 c) = 3 := rfl
theorem G4 (s : Str) : F4 prog 9 (.str s) = true := rfl
theorem a5a (M : List a0D) : ∀ k ∈ M.map (fun x => D.str x.1), F4 prog 9 k = true := by
 intro k hk; obtain ⟨x, _, rfl⟩ := mem_map.1 hk; exact G4 _
theorem a3Y : Program.underlying prog 63 = some (.map 9 75) := by kernel_rfl
theorem X5 : Program.underlying prog 80 = some (.map 9 9) := by kernel_rfl
theorem a2i {R : List Chg} {id : Str} : id ∈ A9 R ↔ (∃ c ∈ R, idC c = id) /\ a1V (abF R id) = true := by
 unfold A9 a2M; rw [b2S, mem_map]; constructor
 . rintro ⟨p, hp, rfl⟩; obtain ⟨h1, h2⟩ := mem_filter.1 hp; obtain ⟨h3, h4⟩ := a6G.1 h1; exact ⟨h3, by rw [<- h4]; exact h2⟩
 . rintro ⟨h1, h2⟩; exact ⟨(id, abF R id), mem_filter.2 ⟨a6G.2 ⟨h1, rfl⟩, h2⟩, rfl⟩
theorem Q6 (R : List Chg) : (A9 R).length <= (S4 R).length := by
 unfold A9 a2M I3; rw [length_mergeSort, length_map]; exact length_filter_le _ _
theorem MR.live {R : List Chg} {M : List a0D} (h : MR R M) {id : Str} (hid : id ∈ A9 R) : ∃ d, M6 (a8r M) (.str id) = some d /\ AbD (abF R id) d := by
 obtain ⟨⟨c, hc, rfl⟩, _⟩ := a2i.1 hid; obtain ⟨d, h1, h2⟩ := h.has hc; exact ⟨d, c0o h.nodup h1, h2⟩
def OwI (R : List Chg) (sd : D) (g : Nat) (k : Nat) (τ : St) : Prop := τ 0 = .d sd /\ τ 3 = .d (.raw (.map (some g))) /\ τ 11 = .own false 9 ((A9 R).map .str) /\ τ 12 = .d (.int .i64 (A9 R).length) /\ τ 13 = .d (.int .i64 k) /\
 τ 1000000 = .hm (.map (some g)) 9 (P0 (P2 R ((A9 R).take k))) none
theorem b3r (R : List Chg) (d : D) (hd : StD R d) (hl : (S4 R).length < 100000) : G1 prog 63 [.d d] [] (fun r hs' => ∃ g, r = .d (.raw (.map (some g))) /\ hs' = [.hm (.map (some g)) 9 (P0 (P2 R (A9 R))) none]) := by
 obtain ⟨u1, R1, bs1, c1, u2, M, bs2, c2, rfl, hR1, hM⟩ := hd.open; have hll := Q6 R; have hlv := a4f R _ hd hl; refine S3 (fun _ => false) (by kernel_rfl) func63 (by kernel_rfl) rfl rfl (nbl rfl) (by kernel_rfl) rfl ?_; simp -implicitDefEqProofs [A5]; refine a8A 9 1000000 (by simp [A5]) (fun g => ?_); simp -implicitDefEqProofs [A5]; refine A0 hlv ?_; simp -implicitDefEqProofs [A5]; obtain ⟨sd, hsd⟩ : ∃ sd, U3 u1 R1 bs1 c1 u2 M bs2 c2 = sd := ⟨_, rfl⟩; refine F3 (A9 R).length (OwI R sd g) ⟨by simp [A5, <- hsd], by simp [A5], by simp [A5], by simp [A5], by simp [A5], by simp [A5, P2, P0]⟩ ?_; rintro k τ hk ⟨g0, g3, g11, g12, g13, gA⟩; by_cases hlt : k < (A9 R).length
 . have hlt' : (k : Int) < (A9 R).length := (by omega); obtain ⟨id, hid⟩ : ∃ id, (A9 R)[k] = id := ⟨_, rfl⟩; have hin : id ∈ A9 R := by rw [<- hid]; exact gmm _
   obtain ⟨d, hg1, hab⟩ := hM.live hin; obtain ⟨u, V, bs, clk, hd1, hV⟩ := hab; have htk : (A9 R).take (k + 1) = (A9 R).take k ++ [id] := by rw [F6 hlt, hid]
   have hsn := a7S R ((A9 R).take k) id; rw [<- htk] at hsn; have chg_eq : A3 (abF R id).nm = .agg [A4 (abF R id).nm.1, .int .i64 (abF R id).nm.2.1, .str (abF R id).nm.2.2.1, .str (G2 R id), .str (abF R id).nm.2.2.2.2.1, .str (abF R id).nm.2.2.2.2.2] := rfl; have hmg := a3w (P2 R ((A9 R).take k)) (G2 R id); rw [<- a6e] at hg1; rw [hd1] at hg1; simp -implicitDefEqProofs [g0, g3, g11, g12, g13, <- hsd, U3, hlt, hlt', hid]; refine a0a a3Y (G4 _) (a5a M) Tryz.zd_75 hg1 ?_; simp -implicitDefEqProofs [g0, g3, g11, g12, g13, N0, chg_eq, A1]; cases hs : J1 (P2 R ((A9 R).take k)) (G2 R id) with
   | some v =>
     rw [hs] at hsn hmg; simp at hsn; refine a1d (m := P0 (P2 R ((A9 R).take k))) (E := none) 1000000 (by omega) X5 (by simp [gA]) (G4 _) Tryz.zd_9 hmg ?_; simp -implicitDefEqProofs [g0, g3, g11, g12, g13, hlt]; (repeat refine ai (by omega) ?_); exact B8 hlt ⟨by simp [g0, <- hsd, U3], by simp [g3], by simp [g11], by simp [g12], by simp, by simp [gA, hsn]⟩
   | none =>
     rw [hs] at hsn hmg; simp at hsn; refine a1d (m := P0 (P2 R ((A9 R).take k))) (E := none) 1000000 (by omega) X5 (by simp [gA]) (G4 _) Tryz.zd_9 hmg ?_; simp -implicitDefEqProofs [g0, g3, g11, g12, g13, hlt]; refine a6L (m := P0 (P2 R ((A9 R).take k))) (E := none) 1000000 X5 (by simp [gA]) (G4 _) _ (Perm.refl _) ?_; rw [a7a hs]; simp -implicitDefEqProofs [g0, g3, g11, g12, g13, hlt]; (repeat refine ai (by omega) ?_); exact B8 hlt ⟨by simp [g0, <- hsd, U3], by simp [g3], by simp [g11], by simp [g12], by simp, by simp [hsn]⟩
 . have hlt' : ¬ (k : Int) < (A9 R).length := (by omega); rw [ttl (by omega)] at gA; simp -implicitDefEqProofs [g0, g3, g11, g12, g13, hlt, hlt']; exact ⟨_, [1000000], by simp, by simp [gA, isH], by simp [a0A], g, rfl, by simp [gA]⟩
theorem b4E (a b : Chg) (ha : M8 a) (hb : M8 b) : Ctr prog 81 [.d (A3 a), .d (A3 b)] (.d (A3 (M3 a b))) := by
 have c1 := b7h a ha; have c2 := b7h b hb; have c3 := c4H a.1 b.1; have c4 := a7e (H0 a).1 (H0 b).1; have c5 := a6x [R4 a.1 b.1, a0z (H0 a).1 (H0 b).1] (by simp); have hlt : ltM a b = decide (orI [R4 a.1 b.1, a0z (H0 a).1 (H0 b).1] < 0) := rfl; have hla : M3 a b = if opC a = 0 \/ (opC b ≠ 0 /\ ltM a b = true) then b else a := rfl
 simp only [a2r, map_cons, map_nil] at c5; obtain ⟨la, hla1⟩ : ∃ la, (H0 a).1 = la := ⟨_, rfl⟩; obtain ⟨lb, hlb1⟩ : ∃ lb, (H0 b).1 = lb := ⟨_, rfl⟩; obtain ⟨ea, hea⟩ : ∃ ea, (H0 a).2 = ea := ⟨_, rfl⟩; obtain ⟨eb, heb⟩ : ∃ eb, (H0 b).2 = eb := ⟨_, rfl⟩; obtain ⟨o, ho⟩ : ∃ o, orI [R4 a.1 b.1, a0z (H0 a).1 (H0 b).1] = o := ⟨_, rfl⟩; obtain ⟨x1, hx1⟩ : ∃ x, R4 a.1 b.1 = x := ⟨_, rfl⟩; obtain ⟨x2, hx2⟩ : ∃ x, a0z (H0 a).1 (H0 b).1 = x := ⟨_, rfl⟩; rw [ho] at c5 hlt; rw [hx2] at c4 c5; rw [hx1] at c3 c5; rw [hla1] at c1 c4; rw [hlb1] at c2 c4; rw [hea] at c1; rw [heb] at c2; have ea_eq : A3 a = .agg [A4 a.1, .int .i64 (opC a), .str a.2.2.1, .str a.2.2.2.1, .str a.2.2.2.2.1, .str a.2.2.2.2.2] := rfl; have eb_eq : A3 b = .agg [A4 b.1, .int .i64 (opC b), .str b.2.2.1, .str b.2.2.2.1, .str b.2.2.2.2.1, .str b.2.2.2.2.2] := rfl; generalize hR : M3 a b = R at *; refine G6 (rv := .cell 4 35) (rs := []) (r := .d (A3 R)) (ys := []) (fun i => false) (by kernel_rfl) func81 (by kernel_rfl) rfl rfl (by simp) (nbl rfl) (by kernel_rfl) rfl rfl ?_; rw [ea_eq] at c1 ⊢; rw [eb_eq] at c2 ⊢; rcases Classical.em (opC a = 0) with h1 | h1
 . rw [if_pos (.inl h1)] at hla; subst hla; rw [eb_eq]; rw [h1] at c1; simp -implicitDefEqProofs [A1, h1]; refine A0 c1 ?_; simp -implicitDefEqProofs [A1, h1]; refine A0 c2 ?_; simp -implicitDefEqProofs [A1, h1]
 . rcases Classical.em (opC b = 0) with h2 | h2
   . rw [if_neg (by simp [h1, h2])] at hla; subst hla; rw [ea_eq]; rw [h2] at c2; simp -implicitDefEqProofs [A1, h1, h2]; refine A0 c1 ?_; simp -implicitDefEqProofs [A1, h1, h2]; refine A0 c2 ?_; simp -implicitDefEqProofs [A1, h1, h2]
   . rcases Classical.em (o < 0) with h3 | h3
     . rw [if_pos (.inr ⟨h2, by simp [hlt, h3]⟩)] at hla; subst hla; rw [eb_eq]; simp -implicitDefEqProofs [A1, h1, h2]; refine A0 c1 ?_; simp -implicitDefEqProofs [A1, h1, h2]; refine A0 c2 ?_; simp -implicitDefEqProofs [A1, h1, h2]; refine ⟨rfl, rfl, A0 c3 ?_⟩; simp -implicitDefEqProofs [A1, h1, h2]; refine A0 c4 ?_; simp -implicitDefEqProofs [A1, h1, h2]; refine ⟨by decide, A0 c5 ?_⟩; simp -implicitDefEqProofs [A1, h1, h2, h3]
     . rw [if_neg (by simp [h1, hlt, h3])] at hla; subst hla; rw [ea_eq]; simp -implicitDefEqProofs [A1, h1, h2]; refine A0 c1 ?_; simp -implicitDefEqProofs [A1, h1, h2]; refine A0 c2 ?_; simp -implicitDefEqProofs [A1, h1, h2]; refine ⟨rfl, rfl, A0 c3 ?_⟩; simp -implicitDefEqProofs [A1, h1, h2]; refine A0 c4 ?_; simp -implicitDefEqProofs [A1, h1, h2]; refine ⟨by decide, A0 c5 ?_⟩; simp -implicitDefEqProofs [A1, h1, h2, h3]
def abH (b v : Nat) (a : Abt) : List AV := [.hb (va b) 78 (N0 a (.raw (.map (some v)))), .hm (.map (some v)) 101 (vsM a.vs) none]
theorem b2W (k : VK) : F4 prog 101 (.agg [.str k.1, .str k.2]) = true := by simp [F4]
theorem c3S : Program.underlying prog 76 = some (.map 101 35) := by kernel_rfl
structure b5q (a : Abt) : Prop where
 nm : M8 a.nm
 vs : ∀ k, M8 (a0R a.vs k)
theorem a7z (a b : VK) : I4 (vkD a) (vkD b) = decide (a = b) := by
 obtain ⟨a1, a2⟩ := a; obtain ⟨b1, b2⟩ := b; simp [vkD, I4, U6, Y8]
theorem c1T (vs : List (VK × Chg)) (k : VK) : M6 (vsM vs) (vkD k) = (a0v vs k).map A3 := by
 induction vs with
 | nil => rfl
 | cons p m ih =>
   simp only [M6, vsM, a0v, map_cons, find?_cons, a7z] at ih ⊢; by_cases h : p.1 = k
   . simp [h]
   . simp only [decide_eq_false h]; exact ih
theorem c3D (vs : List (VK × Chg)) (k : VK) (c : Chg) : S1 (vsM vs) (vkD k) (A3 c) = vsM (a3B vs k c) := by
 have e : (vsM vs).any (fun p => I4 p.1 (vkD k)) = vs.any fun p => decide (p.1 = k) := by
   simp only [vsM, any_map, Function.comp_def, a7z]
 unfold S1 a3B; rw [e]; split
 . simp only [vsM, map_map]; refine map_congr_left fun p _ => ?_
   simp only [Function.comp_apply, a7z, decide_eq_true_eq]; split <;> rfl
 . simp [vsM]
theorem b6H (b v : Nat) (a : Abt) (c : Chg) (ha : b5q a) (hc : M8 c) : G1 prog 40 [.d (.raw (va b)), .d (A3 c)] (abH b v a) (fun r hs' => r = .tup [] /\ hs' = abH b v (O7 a c)) := by
 have c1 := b4E a.nm c ha.nm hc; have c2 := b4E (a0R a.vs (T1 c)) c (ha.vs _) hc; have hmg := c1T a.vs (T1 c); have hms := c3D a.vs (T1 c) (M3 (a0R a.vs (T1 c)) c); have ec_eq : A3 c = .agg [A4 c.1, .int .i64 (opC c), .str c.2.2.1, .str c.2.2.2.1, .str c.2.2.2.2.1, .str c.2.2.2.2.2] := rfl; have hta : O7 a c = if opC c = 1 then { a with cr := true, nm := M3 a.nm c }
 else if opC c = 3 then { a with nm := M3 a.nm c }
 else if opC c = 2 then { a with rm := true }
 else { a with vs := a3B a.vs (T1 c) (M3 (a0R a.vs (T1 c)) c) } := rfl
 generalize O7 a c = A2 at *; obtain ⟨cr, rm, nm, vs⟩ := a; simp only at c1 c2 hmg hms hta; refine a1O (rs := []) (fun i => false) (by kernel_rfl) func40 (by kernel_rfl) rfl rfl (by simp) (nbl rfl) (by kernel_rfl) rfl ?_; have chg_w : ∀ x : Chg, C0 (A3 x) = 8 := fun _ => rfl
 rcases Classical.em (opC c = 1) with h1 | h1
 . rw [if_pos h1] at hta; subst hta; rw [ec_eq, h1] at c1 ⊢; generalize M3 nm c = N2 at *; simp -implicitDefEqProofs [A5, abH, N0, A1]; refine L4 (e := 78) (ds := [.bool cr, .bool rm, A3 nm, .raw (.map (some v))]) 1000000 (by simp [A5, abH, N0]) (by omega) (by simp) (by kernel_rfl) ?_; simp -implicitDefEqProofs [A5, chg_w, A1]; refine L4 (e := 78) (ds := [.bool true, .bool rm, A3 nm, .raw (.map (some v))]) 1000000 (by simp [A5, abH, N0]) (by omega) (by simp) (by kernel_rfl) ?_; simp -implicitDefEqProofs [A5, chg_w, A1]; refine ⟨rfl, B6 c1 ?_⟩; simp -implicitDefEqProofs [A5, chg_w, A1]; refine L4 (e := 78) (ds := [.bool true, .bool rm, A3 nm, .raw (.map (some v))]) 1000000 (by simp [A5, abH, N0]) (by omega) (by simp) (by kernel_rfl) ?_; simp -implicitDefEqProofs [A5, chg_w, A1]; exact ⟨[], [1000000, 1000001], by simp, by simp [A5, isH], by simp [T3], rfl, by simp [A5]⟩
 . rw [if_neg h1] at hta; rcases Classical.em (opC c = 3) with h3 | h3
   . rw [if_pos h3] at hta; subst hta; rw [ec_eq, h3] at c1 ⊢; generalize M3 nm c = N2 at *; simp -implicitDefEqProofs [A5, abH, N0, A1]; refine L4 (e := 78) (ds := [.bool cr, .bool rm, A3 nm, .raw (.map (some v))]) 1000000 (by simp [A5, abH, N0]) (by omega) (by simp) (by kernel_rfl) ?_; simp -implicitDefEqProofs [A5, chg_w, A1]; refine ⟨rfl, B6 c1 ?_⟩; simp -implicitDefEqProofs [A5, chg_w, A1]; refine L4 (e := 78) (ds := [.bool cr, .bool rm, A3 nm, .raw (.map (some v))]) 1000000 (by simp [A5, abH, N0]) (by omega) (by simp) (by kernel_rfl) ?_; simp -implicitDefEqProofs [A5, chg_w, A1]; exact ⟨[], [1000000, 1000001], by simp, by simp [A5, isH], by simp [T3], rfl, by simp [A5]⟩
   . rw [if_neg h3] at hta; rcases Classical.em (opC c = 2) with h2 | h2
     . rw [if_pos h2] at hta; subst hta; rw [ec_eq, h2] at c1 ⊢; simp -implicitDefEqProofs [A5, abH, N0, A1]; refine L4 (e := 78) (ds := [.bool cr, .bool rm, A3 nm, .raw (.map (some v))]) 1000000 (by simp [A5, abH, N0]) (by omega) (by simp) (by kernel_rfl) ?_; simp -implicitDefEqProofs [A5, chg_w, A1]; exact ⟨[], [1000000, 1000001], by simp, by simp [A5, isH], by simp [T3], rfl, by simp [A5]⟩
     . rw [if_neg h2] at hta; subst hta; have vk_eq : vkD (T1 c) = .agg [.str c.2.2.2.2.1, .str c.2.2.2.2.2] := rfl; have hlk : a1c false (.agg [.agg [.int .i64 0, .int .i64 0, .int .i64 0], .int .i64 0, .str [], .str [], .str [], .str []]) (Option.map A3 (a0v vs (T1 c))) = .d (A3 (a0R vs (T1 c))) := by
         unfold a0R; cases a0v vs (T1 c) <;> rfl
       rw [ec_eq] at c2 ⊢; rw [vk_eq] at hmg; simp -implicitDefEqProofs [A5, abH, N0, A1, h1, h2, h3]; refine L4 (e := 78) (ds := [.bool cr, .bool rm, A3 nm, .raw (.map (some v))]) 1000000 (by simp [A5, abH, N0]) (by omega) (by simp) (by kernel_rfl) ?_; simp -implicitDefEqProofs [A5, chg_w, A1]; refine L4 (e := 78) (ds := [.bool cr, .bool rm, A3 nm, .raw (.map (some v))]) 1000000 (by simp [A5, abH, N0]) (by omega) (by simp) (by kernel_rfl) ?_; simp -implicitDefEqProofs [A5, chg_w, A1]; refine a1d (m := vsM vs) (E := none) 1000001 (by omega) c3S (by simp [A5]) (b2W _) Tryz.zd_35 hmg ?_; rw [hlk]; simp -implicitDefEqProofs [A5, chg_w, A1]; refine B6 c2 ?_; simp -implicitDefEqProofs [A5, chg_w, A1]; refine a6L (m := vsM vs) (E := none) 1000001 c3S (by simp [A5]) (b2W _) _ (Perm.refl _) ?_; rw [<- vk_eq, hms]; simp -implicitDefEqProofs [A5, chg_w, A1]; exact ⟨[], [1000000, 1000001], by simp, by simp [A5, isH], by simp [T3], rfl, by simp [A5]⟩
theorem b2V (a b : Chg) : I4 (A3 a) (A3 b) = decide (a = b) := by
 obtain ⟨⟨a1, a2, a3⟩, a4, a5, a6, a7, a8⟩ := a; obtain ⟨⟨b1, b2, b3⟩, b4, b5, b6, b7, b8⟩ := b; simp only [A3, A4, I4, U6, Y8, Prod.mk.injEq, Bool.decide_and, Bool.and_true]; simp [Bool.and_assoc, a0y, Y8]
theorem a7i (R : List Chg) (c : Chg) : M6 (R6 R) (A3 c) = if c ∈ R then some (.bool true) else none := by
 induction R with
 | nil => rfl
 | cons x R ih =>
   simp only [M6, R6, map_cons, find?_cons, b2V] at ih ⊢; by_cases h : x = c
   . simp [h]
   . simp only [decide_eq_false h]; rw [ih]; have : ¬ c = x := fun e => h e.symm
     simp [this]
theorem b2D {R : List Chg} {c : Chg} (h : c ∉ R) : S1 (R6 R) (A3 c) (.bool true) = R6 (R ++ [c]) := by
 unfold S1; rw [if_neg (by
   simp only [R6, any_map, any_eq_true, Function.comp_apply, b2V, decide_eq_true_eq, not_exists, not_and]; rintro x hx rfl; exact h hx)]
 simp [R6]
theorem a5V (c : Chg) : F4 prog 35 (A3 c) = true := by
 obtain ⟨⟨a1, a2, a3⟩, a4, a5, a6, a7, a8⟩ := c; simp [F4, A3, A4]
theorem a3T : Program.underlying prog 62 = some (.map 35 4) := by kernel_rfl
theorem b1O {E : List W2} {id : Str} (h : ∀ e ∈ E, e.1 ≠ id) : M6 (Q4 E) (.str id) = none := by
 induction E with
 | nil => rfl
 | cons x E ih =>
   have := ih fun e he => h e (by simp [he])
   simp only [M6, Q4, map_cons, find?_cons, L3] at this ⊢; simp only [decide_eq_false (h x (by simp))]; exact this
theorem b1W {E : List W2} (hn : (E.map (·.1)).Nodup) {e : W2} (he : e ∈ E) : M6 (Q4 E) (.str e.1) = some (.raw (va e.2.2.1)) := by
 induction E with
 | nil => simp at he
 | cons x E ih =>
   rw [map_cons, nodup_cons] at hn; rcases mem_cons.1 he with rfl | he
   . simp [M6, Q4, L3]
   . have hne : ¬ x.1 = e.1 := fun q => hn.1 (mem_map.2 ⟨_, he, q.symm⟩)
     have := ih hn.2 he; simp only [M6, Q4, map_cons, find?_cons, L3, decide_eq_false hne] at this ⊢; exact this
theorem b3d {E : List W2} {id : Str} {a : Abt} {b v : Nat} (h : ∀ e ∈ E, e.1 ≠ id) : S1 (Q4 E) (.str id) (.raw (va b)) = Q4 (E ++ [(id, a, b, v)]) := by
 unfold S1; rw [if_neg (by
   simp only [Q4, any_map, any_eq_true, Function.comp_apply, L3, decide_eq_true_eq, not_exists, not_and]; exact h)]
 simp [Q4]
def I0 (R : List Chg) (c : Chg) : Int := if I6 c ≠ 0 then I6 c else if c ∈ R then 0 else if 4096 <= R.length then 3 else 0
def K1 (R : List Chg) (c : Chg) : List Chg := if I6 c = 0 /\ c ∉ R /\ R.length < 4096 then R ++ [c] else R
def stD (r m : Nat) : D := .agg [.raw (.map (some r)), .raw (.map (some m))]
theorem a8s (s r m : Nat) : G1 prog 39 [.d (.raw (va s))] [.hb (va s) 65 (stD r m)] (fun x hs' => x = .d (.bool true) /\ hs' = [.hb (va s) 65 (stD r m)]) := by
 refine S3 (fun _ => false) (by kernel_rfl) func39 (by kernel_rfl) rfl rfl (nbl rfl) (by kernel_rfl) rfl ?_; simp -implicitDefEqProofs [A5, stD]; refine L4 (e := 65) (ds := [.raw (.map (some r)), .raw (.map (some m))]) 1000000 (by simp [A5]) (by omega) (by simp) (by kernel_rfl) ?_; simp -implicitDefEqProofs [A5]; exact ⟨.d (.bool true), [1000000], by simp, by simp [A5, isH], by simp [a0A], by simp, by simp [A5]⟩
theorem c0d (s r m : Nat) (R : List Chg) (E : List W2) (c : Chg) (hc : M8 c) (h : I6 c ≠ 0 \/ c ∈ R \/ 4096 <= R.length) :
   G1 prog 13 [.d (.raw (va s)), .d (A3 c)] (U2 s r m R E) (fun x hs' => x = .d (.int .i64 (I0 R c)) /\ hs' = U2 s r m R E) := by
 have c1 := a8s s r m; have c2 := a8Q c hc; have hmg := a7i R c; have ec_eq : A3 c = .agg [A4 c.1, .int .i64 (opC c), .str c.2.2.1, .str c.2.2.2.1, .str c.2.2.2.2.1, .str c.2.2.2.2.2] := rfl; have hkf := a5V c; simp only [stD] at c1; refine S3 (fun i => i == 5000007 || i == 5000056 || i == 8000012 || i == 1000047) (by kernel_rfl) func13 (by kernel_rfl) rfl rfl (nbl rfl) (by kernel_rfl) rfl ?_; rw [ec_eq] at c2 hkf hmg ⊢; have hlr : (R6 R).length = R.length := (by simp [R6]); rcases Classical.em (I6 c = 0) with h0 | h0
 . rw [h0] at c2; rcases Classical.em (c ∈ R) with h1 | h1
   . have he : I0 R c = 0 := (by simp [I0, h0, h1]); rw [if_pos h1] at hmg; rw [he]; simp -implicitDefEqProofs [A5, U2, A1]; refine N1 [1000000] 1000000 c1 (by simp [A5, U2]) rfl (by simp) ?_; rintro x hs' ⟨rfl, rfl⟩; simp -implicitDefEqProofs [A5, E7, D8, A1]; refine A0 c2 ?_; simp -implicitDefEqProofs [A5, E7, D8, A1]; refine L4 (e := 65) (ds := [.raw (.map (some r)), .raw (.map (some m))]) 1000000 (by simp [A5]) (by omega) (by simp) (by kernel_rfl) ?_; simp -implicitDefEqProofs [A5, E7, D8, A1]; refine a1d (m := R6 R) (E := none) 1000001 (by omega) a3T (by simp [A5]) hkf Tryz.zd_4 hmg ?_; simp -implicitDefEqProofs [A5, E7, D8, A1]; exact ⟨.d (.int .i64 (0)), [1000000, 1000001, 1000002], by simp, by simp [A5, isH], by simp [a0A], by simp, by simp [A5]⟩
   . have h2 : 4096 <= R.length := by rcases h with h | h | h <;> first | contradiction | exact h
     have he : I0 R c = 3 := (by simp [I0, h0, h1, h2]); rw [if_neg h1] at hmg; rw [he]; simp -implicitDefEqProofs [A5, U2, A1]; refine N1 [1000000] 1000000 c1 (by simp [A5, U2]) rfl (by simp) ?_; rintro x hs' ⟨rfl, rfl⟩; simp -implicitDefEqProofs [A5, E7, D8, A1]; refine A0 c2 ?_; simp -implicitDefEqProofs [A5, E7, D8, A1]; refine L4 (e := 65) (ds := [.raw (.map (some r)), .raw (.map (some m))]) 1000000 (by simp [A5]) (by omega) (by simp) (by kernel_rfl) ?_; simp -implicitDefEqProofs [A5, E7, D8, A1]; refine a1d (m := R6 R) (E := none) 1000001 (by omega) a3T (by simp [A5]) hkf Tryz.zd_4 hmg ?_; simp -implicitDefEqProofs [A5, E7, D8, A1]; refine L4 (e := 65) (ds := [.raw (.map (some r)), .raw (.map (some m))]) 1000000 (by simp [A5]) (by omega) (by simp) (by kernel_rfl) ?_; simp -implicitDefEqProofs [A5, E7, D8, A1]; refine c3F (m := R6 R) (E := none) 1000001 (by omega) a3T (by simp [A5]) ?_; have h2' : (4096 : Int) <= (R6 R).length := by rw [hlr]; omega
     simp -implicitDefEqProofs [A5, E7, D8, A1, h2']; exact ⟨.d (.int .i64 (3)), [1000000, 1000001, 1000002], by simp, by simp [A5, isH], by simp [a0A], by simp, by simp [A5]⟩
 . have he : I0 R c = I6 c := (by simp [I0, h0]); rw [he]; simp -implicitDefEqProofs [A5, U2, A1]; refine N1 [1000000] 1000000 c1 (by simp [A5, U2]) rfl (by simp) ?_; rintro x hs' ⟨rfl, rfl⟩; simp -implicitDefEqProofs [A5, E7, D8, A1]; refine A0 c2 ?_; simp -implicitDefEqProofs [A5, E7, D8, A1, h0]; exact ⟨.d (.int .i64 (I6 c)), [1000000, 1000001, 1000002], by simp, by simp [A5, isH], by simp [a0A], by simp, by simp [A5]⟩
theorem c1h (s r m : Nat) (R : List Chg) (E : List W2) (c : Chg) (a : Abt) (b v : Nat) (hn : (E.map (·.1)).Nodup) (hin : (idC c, a, b, v) ∈ E) (ha : b5q a) (hc : M8 c) (h0 : I6 c = 0) (h1 : c ∉ R) (h2 : R.length < 4096) :
   G1 prog 13 [.d (.raw (va s)), .d (A3 c)] (U2 s r m R E ++ abH b v a) (fun x hs' => x = .d (.int .i64 0) /\ hs' = U2 s r m (R ++ [c]) E ++ abH b v (O7 a c)) := by
 have c1 := a8s s r m; have c2 := a8Q c hc; have c3 := b6H b v a c ha hc; have hmg := a7i R c; have hms := b2D h1; have hge := b1W hn hin; have ec_eq : A3 c = .agg [A4 c.1, .int .i64 (opC c), .str c.2.2.1, .str c.2.2.2.1, .str c.2.2.2.2.1, .str c.2.2.2.2.2] := rfl; have hkf := a5V c; simp only [stD] at c1; rw [if_neg h1] at hmg; rw [h0] at c2; simp only at hge; refine S3 (fun i => i == 5000007 || i == 5000056 || i == 8000012 || i == 1000047) (by kernel_rfl) func13 (by kernel_rfl) rfl rfl (nbl rfl) (by kernel_rfl) rfl ?_; rw [ec_eq] at c2 c3 hkf hmg hms ⊢; have hlr : (R6 R).length = R.length := (by simp [R6]); have h2' : ¬ (4096 : Int) <= (R6 R).length := by rw [hlr]; omega
 simp only [abH] at c3 ⊢; generalize O7 a c = A2 at *; simp -implicitDefEqProofs [A5, U2, A1]; refine N1 [1000000] 1000000 c1 (by simp [A5, U2]) rfl (by simp) ?_; rintro x hs' ⟨rfl, rfl⟩; simp -implicitDefEqProofs [A5, E7, D8, A1]; refine A0 c2 ?_; simp -implicitDefEqProofs [A5, E7, D8, A1]; refine L4 (e := 65) (ds := [.raw (.map (some r)), .raw (.map (some m))]) 1000000 (by simp [A5]) (by omega) (by simp) (by kernel_rfl) ?_; simp -implicitDefEqProofs [A5, E7, D8, A1]; refine a1d (m := R6 R) (E := none) 1000001 (by omega) a3T (by simp [A5]) hkf Tryz.zd_4 hmg ?_; simp -implicitDefEqProofs [A5, E7, D8, A1]; refine L4 (e := 65) (ds := [.raw (.map (some r)), .raw (.map (some m))]) 1000000 (by simp [A5]) (by omega) (by simp) (by kernel_rfl) ?_; simp -implicitDefEqProofs [A5, E7, D8, A1]; refine c3F (m := R6 R) (E := none) 1000001 (by omega) a3T (by simp [A5]) ?_; simp -implicitDefEqProofs [A5, E7, D8, A1, h2']; refine L4 (e := 65) (ds := [.raw (.map (some r)), .raw (.map (some m))]) 1000000 (by simp [A5]) (by omega) (by simp) (by kernel_rfl) ?_; simp -implicitDefEqProofs [A5, E7, D8, A1]; refine a6L (m := R6 R) (E := none) 1000001 a3T (by simp [A5]) hkf _ (Perm.refl _) ?_; rw [hms]; simp -implicitDefEqProofs [A5, E7, D8, A1]; refine L4 (e := 65) (ds := [.raw (.map (some r)), .raw (.map (some m))]) 1000000 (by simp [A5]) (by omega) (by simp) (by kernel_rfl) ?_; simp -implicitDefEqProofs [A5, E7, D8, A1]; refine a1d (m := Q4 E) (E := none) 1000002 (by omega) a3Y (by simp [A5]) (G4 _) Tryz.zd_75 hge ?_; simp -implicitDefEqProofs [A5, E7, D8, A1]; refine L4 (e := 65) (ds := [.raw (.map (some r)), .raw (.map (some m))]) 1000000 (by simp [A5]) (by omega) (by simp) (by kernel_rfl) ?_; simp -implicitDefEqProofs [A5, E7, D8, A1]; refine a1d (m := Q4 E) (E := none) 1000002 (by omega) a3Y (by simp [A5]) (G4 _) Tryz.zd_75 hge ?_; simp -implicitDefEqProofs [A5, E7, D8, A1]; refine N1 [1000003, 1000004] 1000003 c3 (by simp [A5]) rfl (by simp) ?_; rintro x hs' ⟨rfl, rfl⟩; simp -implicitDefEqProofs [A5, E7, D8, A1]; exact ⟨.d (.int .i64 0), [1000000, 1000001, 1000002, 1000003, 1000004], by simp, by simp [A5, isH], by simp [a0A], by simp, by simp [A5]⟩
theorem b9p : b5q P3 := by
 refine ⟨⟨by simp [P3, L5], by simp [P3, L5], by simp [P3, L5], by simp [P3, L5]⟩, fun k => ?_⟩; simp [P3, a0R, a0v]; exact ⟨by simp [L5], by simp [L5], by simp [L5], by simp [L5]⟩
def apW (s m : Nat) (id : Str) (v : Nat) (q : Nat) : Nat -> AV
 | 0 => .d (.raw (va s))
 | 1 => .d (.raw (va s))
 | 2 => .adr 1000000 [1]
 | 3 => .d (.raw (.map (some m)))
 | 4 => .adr 3 [2]
 | 5 => .d (.str id)
 | 6 => .d (.raw (.map (some v)))
 | 7 => .d (N0 P3 (.raw (.map (some v))))
 | _ => .d (.raw (va q))
theorem a2f {s m v q d : Nat} {id : Str} (h3 : d ≠ 3) (h6 : d ≠ 1000000) : ∀ i, F5 d (apW s m id v q i) = apW s m id v q i
 | 0 | 1 | 3 | 5 | 6 | 7 => rfl
 | 2 => by simp [apW, F5, Ne.symm h6]
 | 4 => by simp [apW, F5, Ne.symm h3]
 | _ + 8 => rfl
structure ApI (s r m : Nat) (R : List Chg) (E : List W2) (c : Chg) (A : Abt) (v q : Nat) (b : Nat -> Bool) (σ : St) : Prop where
 h0 : σ 0 = .d (.raw (va s))
 h3 : σ 3 = .box (A3 c)
 hs : σ 1000000 = .hb (va s) 65 (.agg [.raw (.map (some r)), .raw (.map (some m))])
 hr : σ 1000001 = .hm (.map (some r)) 35 (R6 (R ++ [c])) none
 hm : σ 1000002 = .hm (.map (some m)) 9 (if b 9 = true then Q4 (E ++ [(idC c, A, q, v)]) else Q4 E) none
 hv : σ 1000004 = if b 6 = true then .hm (.map (some v)) 101 [] none else .undef
 hq : σ 1000003 = if b 8 = true then .hb (va q) 78 (N0 P3 (.raw (.map (some v)))) else .undef
 d7 : b 6 = false -> b 7 = false
 d8 : b 7 = false -> b 8 = false
 d9 : b 8 = false -> b 9 = false
 w : ∀ i, i < 9 -> b i = true -> σ (39 + i) = apW s m (idC c) v q i
section
variable {s r m : Nat} {R : List Chg} {E : List W2} {c : Chg} {A : Abt} {v q : Nat} {b : Nat -> Bool} {σ : St}
theorem ApI.put (h : ApI s r m R E c A v q b σ) (i : Nat) (hi : i < 6 \/ i = 7) (h7 : i = 7 -> b 6 = true) {x : AV} (hx : x = apW s m (idC c) v q i) : ApI s r m R E c A v q (fun j => if j = i then true else b j) (Vw.put σ (39 + i) x) := by
 have z : ∀ j y, j ≠ 39 + i -> σ j = y -> F5 (39 + i) y = y -> Vw.put σ (39 + i) x j = y := fun j y hj e hk => by simp only [Vw.put, if_neg hj, e, hk]
 have hn : ∀ k, 8 <= k \/ k = 6 -> (if k = i then true else b k) = b k := fun k hk => by rw [if_neg (by omega)]
 refine ⟨z _ _ (by omega) h.h0 rfl, z _ _ (by omega) h.h3 rfl, z _ _ (by omega) h.hs rfl, z _ _ (by omega) h.hr rfl, ?_, ?_, ?_, fun e => ?_, fun e => ?_, fun e => ?_, fun j hj hb => ?_⟩
 . simp only [hn 9 (by omega)]; exact z _ _ (by omega) h.hm rfl
 . simp only [hn 6 (by omega)]; refine z _ _ (by omega) h.hv ?_; split <;> rfl
 . simp only [hn 8 (by omega)]; refine z _ _ (by omega) h.hq ?_; split <;> rfl
 . simp only [hn 6 (by omega)] at e; rcases hi with hi | hi
   . simp only [if_neg (show ¬ 7 = i by omega)]; exact h.d7 e
   . rw [h7 hi] at e; cases e
 . simp only [hn 8 (by omega)]; rcases hi with hi | hi
   . simp only [if_neg (show ¬ 7 = i by omega)] at e; exact h.d8 e
   . subst hi; simp at e
 . simp only [hn 8 (by omega), hn 9 (by omega)] at e ⊢; exact h.d9 e
 . by_cases p : j = i
   . subst p; simp only [Vw.put, if_true]; rw [hx]; exact a2f (by omega) (by omega) _
   . simp only [if_neg p] at hb; exact z _ _ (by omega) (h.w j hj hb) (a2f (by omega) (by omega) _)
theorem ApI.mk6 (h : ApI s r m R E c A v q b σ) (hb : b 6 = false) (u : Nat) : ApI s r m R E c A u q (fun j => if j = 6 then true else b j) (Vw.put (Vw.put σ 1000004 (.hm (.map (some u)) 101 [] none)) 45 (.d (.raw (.map (some u))))) := by
 have e7 := h.d7 hb; have e8 := h.d8 e7; have e9 := h.d9 e8; have z : ∀ j y, j ≠ 45 -> j ≠ 1000004 -> σ j = y -> F5 45 (F5 1000004 y) = y -> Vw.put (Vw.put σ 1000004 (.hm (.map (some u)) 101 [] none)) 45 (.d (.raw (.map (some u)))) j = y := fun j y hj hj2 e hk => by simp only [Vw.put, if_neg hj, if_neg hj2, e, hk]
 have h2 := h.hm; have h4 := h.hq; simp only [e9, e8, Bool.false_eq_true, if_false] at h2 h4; refine ⟨z _ _ (by omega) (by omega) h.h0 rfl, z _ _ (by omega) (by omega) h.h3 rfl, z _ _ (by omega) (by omega) h.hs rfl, z _ _ (by omega) (by omega) h.hr rfl, ?_, rfl, ?_, fun e => by simp at e, fun e => e8, fun e => e9, fun j hj hj2 => ?_⟩
 . simp [e9]; exact z _ _ (by omega) (by omega) h2 rfl
 . simp [e8]; exact z _ _ (by omega) (by omega) h4 rfl
 . by_cases p : j = 6
   . subst p; rfl
   . simp only [if_neg p] at hj2; have hw := h.w j hj hj2; have : apW s m (idC c) v q j = apW s m (idC c) u q j := by
       match j, hj with
       | 0, _ | 1, _ | 2, _ | 3, _ | 4, _ | 5, _ | 8, _ => rfl
       | 6, _ => exact absurd rfl p
       | 7, _ => rw [e7] at hj2; cases hj2
     rw [this] at hw; exact z _ _ (by omega) (by omega) hw (by rw [a2f (by omega) (by omega), a2f (by omega) (by omega)])
theorem ApI.mk8 (h : ApI s r m R E c A v q b σ) (hb : b 8 = false) (h7 : b 7 = true) (u : Nat) : ApI s r m R E c A v u (fun j => if j = 8 then true else b j) (Vw.put (Vw.put σ 1000003 (.hb (va u) 78 (N0 P3 (.raw (.map (some v)))))) 47 (.d (.raw (va u)))) := by
 have e9 := h.d9 hb; have h6 : b 6 = true := by
   cases e : b 6 with
   | true => rfl
   | false => rw [h.d7 e] at h7; cases h7
 have z : ∀ j y, j ≠ 47 -> j ≠ 1000003 -> σ j = y -> F5 47 (F5 1000003 y) = y -> Vw.put (Vw.put σ 1000003 (.hb (va u) 78 (N0 P3 (.raw (.map (some v)))))) 47 (.d (.raw (va u))) j = y := fun j y hj hj2 e hk => by simp only [Vw.put, if_neg hj, if_neg hj2, e, hk]
 have h2 := h.hm; have h4 := h.hv; simp only [e9, h6, Bool.false_eq_true, if_false, if_true] at h2 h4; refine ⟨z _ _ (by omega) (by omega) h.h0 rfl, z _ _ (by omega) (by omega) h.h3 rfl, z _ _ (by omega) (by omega) h.hs rfl, z _ _ (by omega) (by omega) h.hr rfl, ?_, ?_, rfl, fun e => ?_, fun e => ?_, fun e => by simp at e, fun j hj hj2 => ?_⟩
 . simp [e9]; exact z _ _ (by omega) (by omega) h2 rfl
 . simp [h6]; exact z _ _ (by omega) (by omega) h4 rfl
 . simp [h6] at e
 . simp [h7] at e
 . by_cases p : j = 8
   . subst p; rfl
   . simp only [if_neg p] at hj2; have hw := h.w j hj hj2; have : apW s m (idC c) v q j = apW s m (idC c) v u j := by
       match j, hj with
       | 0, _ | 1, _ | 2, _ | 3, _ | 4, _ | 5, _ | 6, _ | 7, _ => rfl
       | 8, _ => exact absurd rfl p
     rw [this] at hw; exact z _ _ (by omega) (by omega) hw (by rw [a2f (by omega) (by omega), a2f (by omega) (by omega)])
theorem ApI.up9 (h : ApI s r m R E c A v q b σ) (h8 : b 8 = true) : ApI s r m R E c A v q (fun j => if j = 9 then true else b j) (Vw.put σ 1000002 (.hm (.map (some m)) 9 (Q4 (E ++ [(idC c, A, q, v)])) none)) := by
 have z : ∀ j y, j ≠ 1000002 -> σ j = y -> F5 1000002 y = y -> Vw.put σ 1000002 (.hm (.map (some m)) 9 (Q4 (E ++ [(idC c, A, q, v)])) none) j = y := fun j y hj e hk => by simp only [Vw.put, if_neg hj, e, hk]
 refine ⟨z _ _ (by omega) h.h0 rfl, z _ _ (by omega) h.h3 rfl, z _ _ (by omega) h.hs rfl, z _ _ (by omega) h.hr rfl, rfl, z _ _ (by omega) h.hv (by cases b 6 <;> rfl), z _ _ (by omega) h.hq (by cases b 8 <;> rfl), h.d7, h.d8, fun e => ?_, fun j hj hj2 => ?_⟩
 . simp [h8] at e
 . simp only [if_neg (show ¬ j = 9 by omega)] at hj2; exact z _ _ (by omega) (h.w j hj hj2) (a2f (by omega) (by omega) _)
end
theorem c0F (s r m : Nat) (R : List Chg) (E : List W2) (c : Chg) (hnew : ∀ e ∈ E, e.1 ≠ idC c) (hc : M8 c) (h0 : I6 c = 0) (h1 : c ∉ R) (h2 : R.length < 4096) :
   G1 prog 13 [.d (.raw (va s)), .d (A3 c)] (U2 s r m R E) (fun x hs' => x = .d (.int .i64 0) /\ ∃ b v, hs' = U2 s r m (R ++ [c]) (E ++ [(idC c, O7 P3 c, b, v)]) ++ abH b v (O7 P3 c)) := by
 have c1 := a8s s r m; have c2 := a8Q c hc; have c3 : ∀ b v, _ := fun b v => b6H b v P3 c b9p hc
 have hmg := a7i R c; have hms := b2D h1; have hge := b1O hnew; have hme : ∀ b v, _ := fun b v => b3d (a := O7 P3 c) (b := b) (v := v) hnew
 have hg2 : ∀ b, M6 (S1 (Q4 E) (.str (idC c)) (.raw (va b))) (.str (idC c)) = some (.raw (va b)) := fun b => by
   rw [b3d (a := O7 P3 c) (b := b) (v := 0) hnew]; have : ∀ E : List W2, (∀ e ∈ E, e.1 ≠ idC c) -> M6 (Q4 (E ++ [(idC c, O7 P3 c, b, 0)])) (.str (idC c)) = some (.raw (va b)) := by
     intro E
     induction E with
     | nil => intro _; simp [M6, Q4, L3]
     | cons x E ih =>
       intro h; have := ih fun e he => h e (by simp [he])
       simp only [M6, Q4, cons_append, map_cons, find?_cons, L3, decide_eq_false (h x (by simp))] at this ⊢; exact this
   exact this E hnew
 have ec_eq : A3 c = .agg [A4 c.1, .int .i64 (opC c), .str c.2.2.1, .str c.2.2.2.1, .str c.2.2.2.2.1, .str c.2.2.2.2.2] := rfl; have hkf := a5V c; have za_eq : ∀ v, N0 P3 (.raw (.map (some v))) = .agg [.bool false, .bool false, .agg [.agg [.int .i64 0, .int .i64 0, .int .i64 0], .int .i64 0, .str [], .str [], .str [], .str []], .raw (.map (some v))] := fun _ => rfl
 have zv : P3.vs = [] := rfl; have zvm : vsM [] = [] := rfl; simp only [stD] at c1; rw [if_neg h1] at hmg; rw [h0] at c2; refine S3 (fun i => i == 5000007 || i == 5000056 || i == 8000012 || i == 1000047) (by kernel_rfl) func13 (by kernel_rfl) rfl rfl (nbl rfl) (by kernel_rfl) rfl ?_; rw [ec_eq] at c2 c3 hkf hmg hms ⊢; have hlr : (R6 R).length = R.length := (by simp [R6]); have h2' : ¬ (4096 : Int) <= (R6 R).length := by rw [hlr]; omega
 simp only [abH] at c3 ⊢; simp only [za_eq, zv, zvm] at c3; generalize O7 P3 c = A2 at *; simp -implicitDefEqProofs [A5, U2, A1]; refine N1 [1000000] 1000000 c1 (by simp [A5, U2]) rfl (by simp) ?_; rintro x hs' ⟨rfl, rfl⟩; simp -implicitDefEqProofs [A5, E7, D8, A1]; refine A0 c2 ?_; simp -implicitDefEqProofs [A5, E7, D8, A1]; refine L4 (e := 65) (ds := [.raw (.map (some r)), .raw (.map (some m))]) 1000000 (by simp [A5]) (by omega) (by simp) (by kernel_rfl) ?_; simp -implicitDefEqProofs [A5, E7, D8, A1]; refine a1d (m := R6 R) (E := none) 1000001 (by omega) a3T (by simp [A5]) hkf Tryz.zd_4 hmg ?_; simp -implicitDefEqProofs [A5, E7, D8, A1]; refine L4 (e := 65) (ds := [.raw (.map (some r)), .raw (.map (some m))]) 1000000 (by simp [A5]) (by omega) (by simp) (by kernel_rfl) ?_; simp -implicitDefEqProofs [A5, E7, D8, A1]; refine c3F (m := R6 R) (E := none) 1000001 (by omega) a3T (by simp [A5]) ?_; simp -implicitDefEqProofs [A5, E7, D8, A1, h2']; refine L4 (e := 65) (ds := [.raw (.map (some r)), .raw (.map (some m))]) 1000000 (by simp [A5]) (by omega) (by simp) (by kernel_rfl) ?_; simp -implicitDefEqProofs [A5, E7, D8, A1]; refine a6L (m := R6 R) (E := none) 1000001 a3T (by simp [A5]) hkf _ (Perm.refl _) ?_; rw [hms]; simp -implicitDefEqProofs [A5, E7, D8, A1]; refine L4 (e := 65) (ds := [.raw (.map (some r)), .raw (.map (some m))]) 1000000 (by simp [A5]) (by omega) (by simp) (by kernel_rfl) ?_; simp -implicitDefEqProofs [A5, E7, D8, A1]; refine a1d (m := Q4 E) (E := none) 1000002 (by omega) a3Y (by simp [A5]) (G4 _) Tryz.zd_75 hge ?_; simp -implicitDefEqProofs [A5, E7, D8, A1]; refine c2k (fun b σ => ∃ v q, ApI s r m R E c A2 v q b σ) (by kernel_rfl) ⟨0, 0, by simp [A5], by simp [A5, ec_eq], by simp [A5], by simp [A5], by simp [A5], by simp [A5], by simp [A5], fun _ => rfl, fun _ => rfl, fun _ => rfl, fun _ _ h => by cases h⟩ ?_ (fun b σ hb hJ => ?_)
 . rintro b i o ho hbi hdep σ ⟨v, q, hJ⟩ K' hK; have hi : i < 10 := (Array.getElem?_eq_some_iff.1 ho).1
   match i, hi with
   | 0, _ =>
     simp only [getElem?_toArray, getElem?_cons_zero, getElem?_cons_succ, Option.some.injEq] at ho; subst ho; simp [Region.binds] at hdep; simp -implicitDefEqProofs [hJ.h0]; exact hK _ ⟨v, q, hJ.put 0 (by omega) (by omega) rfl⟩
   | 1, _ =>
     simp only [getElem?_toArray, getElem?_cons_zero, getElem?_cons_succ, Option.some.injEq] at ho; subst ho; simp [Region.binds] at hdep; have w0 := hJ.w 0 (by omega) (by simp [hdep]); simp only [apW] at w0; simp -implicitDefEqProofs [w0]; exact hK _ ⟨v, q, hJ.put 1 (by omega) (by omega) rfl⟩
   | 2, _ =>
     simp only [getElem?_toArray, getElem?_cons_zero, getElem?_cons_succ, Option.some.injEq] at ho; subst ho; simp [Region.binds] at hdep; have w1 := hJ.w 1 (by omega) (by simp [hdep]); simp only [apW] at w1; simp -implicitDefEqProofs [w1]; refine L4 (e := 65) (ds := [.raw (.map (some r)), .raw (.map (some m))]) 1000000 hJ.hs (by omega) (by simp) (by kernel_rfl) ?_; exact hK _ ⟨v, q, hJ.put 2 (by omega) (by omega) rfl⟩
   | 3, _ =>
     simp only [getElem?_toArray, getElem?_cons_zero, getElem?_cons_succ, Option.some.injEq] at ho; subst ho; simp [Region.binds] at hdep; have w2 := hJ.w 2 (by omega) (by simp [hdep]); simp only [apW] at w2; simp -implicitDefEqProofs [w2, hJ.hs]; exact hK _ ⟨v, q, hJ.put 3 (by omega) (by omega) rfl⟩
   | 4, _ =>
     simp only [getElem?_toArray, getElem?_cons_zero, getElem?_cons_succ, Option.some.injEq] at ho; subst ho; simp [Region.binds] at hdep; simp -implicitDefEqProofs [hJ.h3, ec_eq, A1]; exact hK _ ⟨v, q, hJ.put 4 (by omega) (by omega) rfl⟩
   | 5, _ =>
     simp only [getElem?_toArray, getElem?_cons_zero, getElem?_cons_succ, Option.some.injEq] at ho; subst ho; simp [Region.binds] at hdep; have w4 := hJ.w 4 (by omega) (by simp [hdep]); simp only [apW] at w4; simp -implicitDefEqProofs [w4, hJ.h3, ec_eq]; exact hK _ ⟨v, q, hJ.put 5 (by omega) (by omega) rfl⟩
   | 6, _ =>
     simp only [getElem?_toArray, getElem?_cons_zero, getElem?_cons_succ, Option.some.injEq] at ho; subst ho; simp [Region.binds] at hdep; simp -implicitDefEqProofs []; exact a8A 101 1000004 (by rw [hJ.hv, hbi]; rfl) (fun u => hK _ ⟨u, q, hJ.mk6 hbi u⟩)
   | 7, _ =>
     simp only [getElem?_toArray, getElem?_cons_zero, getElem?_cons_succ, Option.some.injEq] at ho; subst ho; simp [Region.binds] at hdep; have w6 := hJ.w 6 (by omega) (by simp [hdep]); simp only [apW] at w6; simp -implicitDefEqProofs [w6]; exact hK _ ⟨v, q, hJ.put 7 (by omega) (fun _ => by simp [hdep]) rfl⟩
   | 8, _ =>
     simp only [getElem?_toArray, getElem?_cons_zero, getElem?_cons_succ, Option.some.injEq] at ho; subst ho; simp [Region.binds] at hdep; have w7 := hJ.w 7 (by omega) (by simp [hdep]); simp only [apW] at w7; simp -implicitDefEqProofs [w7, za_eq]; exact ⟨1000003, by rw [hJ.hq, hbi]; rfl, fun u => hK _ ⟨v, u, hJ.mk8 hbi (by simp [hdep]) u⟩⟩
   | 9, _ =>
     simp only [getElem?_toArray, getElem?_cons_zero, getElem?_cons_succ, Option.some.injEq] at ho; subst ho; simp [Region.binds] at hdep; have w3 := hJ.w 3 (by omega) (by simp [hdep]); have w5 := hJ.w 5 (by omega) (by simp [hdep]); have w8 := hJ.w 8 (by omega) (by simp [hdep]); simp only [apW] at w3 w5 w8; simp -implicitDefEqProofs [w3, w5, w8]; have h2 := hJ.hm; rw [hbi] at h2; refine a6L (m := Q4 E) (E := none) 1000002 a3Y h2 (G4 _) _ (Perm.refl _) ?_; rw [hme q v]; exact hK _ ⟨v, q, hJ.up9 (by simp [hdep])⟩
 obtain ⟨v, q, hJ⟩ := hJ; obtain ⟨j0, j3, js, jr, jm, jv, jq, _, _, _, _⟩ := hJ; simp only [hb 9 (by simp), hb 8 (by simp), hb 6 (by simp), if_true] at jm jv jq; rw [ec_eq] at j3; have hme := hme q v; have hg2 := hg2 q; rw [hme] at hg2; rw [za_eq] at jq; simp -implicitDefEqProofs [j0, j3, js, jr, jm, jv, jq, A1]; refine L4 (e := 65) (ds := [.raw (.map (some r)), .raw (.map (some m))]) 1000000 (by simp [js]) (by omega) (by simp) (by kernel_rfl) ?_; simp -implicitDefEqProofs [j0, j3, js, jr, jm, jv, jq, A1]; refine a1d (m := Q4 (E ++ [(idC c, A2, q, v)])) (E := none) 1000002 (by omega) a3Y (by simp [jm]) (G4 _) Tryz.zd_75 hg2 ?_; simp -implicitDefEqProofs [j0, j3, js, jr, jm, jv, jq, A1]; refine N1 [1000003, 1000004] 1000003 (c3 q v) (by simp [jq, jv]) rfl (by simp) ?_; rintro x hs' ⟨rfl, rfl⟩; simp -implicitDefEqProofs [E7, D8, j0, j3, js, jr, jm, jv, jq, A1]; exact ⟨.d (.int .i64 0), [1000000, 1000001, 1000002, 1000003, 1000004], by simp, by simp [js, jr, jm, isH], by simp [a0A], rfl, q, v, by simp [js, jr, jm]⟩
theorem b2G : M8 L5 := ⟨by simp [L5], by simp [L5], by simp [L5], by simp [L5]⟩
theorem b3c (a b : Chg) : M3 a b = a \/ M3 a b = b := by
 unfold M3; split
 . exact .inr rfl
 . exact .inl rfl
theorem c0P (vs : List (VK × Chg)) (k k' : VK) (c : Chg) : a0R (a3B vs k c) k' = if k = k' then c else a0R vs k' := by
 unfold a0R a0v a3B; by_cases ha : vs.any (fun p => decide (p.1 = k)) = true
 . rw [if_pos ha]; have key : ∀ vs : List (VK × Chg), ((vs.map fun p => if p.1 = k then (p.1, c) else p).find? fun p => decide (p.1 = k')) = (vs.find? fun p => decide (p.1 = k')).map fun p => if p.1 = k then (p.1, c) else p := by
     intro vs
     induction vs with
     | nil => rfl
     | cons p vs ih =>
       rw [map_cons, find?_cons, find?_cons]; by_cases h : p.1 = k
       . rw [if_pos h]; by_cases h2 : p.1 = k'
         . simp only [decide_eq_true h2, Option.map_some, if_pos h]
         . simp only [decide_eq_false h2]; exact ih
       . rw [if_neg h]; by_cases h2 : p.1 = k'
         . simp only [decide_eq_true h2, Option.map_some, if_neg h]
         . simp only [decide_eq_false h2]; exact ih
   rw [key]; by_cases h : k = k'
   . rw [if_pos h]; obtain ⟨p, hp, e⟩ := any_eq_true.1 ha; cases hf : vs.find? fun p => decide (p.1 = k') with
     | none => exact absurd (by rw [<- h]; exact e) (find?_eq_none.1 hf p hp)
     | some q =>
       have : q.1 = k' := by simpa using find?_some hf
       simp [this, h]
   . rw [if_neg h]; cases hf : vs.find? fun p => decide (p.1 = k') with
     | none => rfl
     | some q =>
       have hq : q.1 = k' := by simpa using find?_some hf
       have : ¬ q.1 = k := fun e => h (e.symm.trans hq)
       simp [this]
 . rw [if_neg ha, find?_append]; by_cases h : k = k'
   . subst h; rw [if_pos rfl]; have : vs.find? (fun p => decide (p.1 = k)) = none := by
       rw [find?_eq_none]; intro p hp hq; exact ha (any_eq_true.2 ⟨p, hp, hq⟩)
     simp [this]
   . rw [if_neg h]; have : find? (fun p : VK × Chg => decide (p.1 = k')) [(k, c)] = none := by simp [h]
     simp [this]
theorem b5K (R : List Chg) (id : Str) : ((abF R id).nm ∈ R \/ (abF R id).nm = L5) /\ ∀ k, a0R (abF R id).vs k ∈ R \/ a0R (abF R id).vs k = L5 := by
 refine M2 (P := fun R => ((abF R id).nm ∈ R \/ (abF R id).nm = L5) /\ ∀ k, a0R (abF R id).vs k ∈ R \/ a0R (abF R id).vs k = L5) ⟨.inr rfl, fun k => .inr rfl⟩ (fun R c ih => ?_) R; have h1 : (abF R id).nm ∈ R ++ [c] \/ (abF R id).nm = L5 := ih.1.imp (fun h => by simp [h]) (fun h => h); have h2 : ∀ k, a0R (abF R id).vs k ∈ R ++ [c] \/ a0R (abF R id).vs k = L5 := fun k => (ih.2 k).imp (fun h => by simp [h]) (fun h => h)
 rw [a0J]; split
 . have h3 : M3 (abF R id).nm c ∈ R ++ [c] \/ M3 (abF R id).nm c = L5 := by
     rcases b3c (abF R id).nm c with e | e
     . rw [e]; exact h1
     . rw [e]; simp
   unfold O7; split
   . exact ⟨h3, h2⟩
   . split
     . exact ⟨h3, h2⟩
     . split
       . exact ⟨h1, h2⟩
       . refine ⟨h1, fun k => ?_⟩; simp only [c0P]; split
         . rcases b3c (a0R (abF R id).vs (T1 c)) c with e | e
           . rw [e]; exact h2 _
           . rw [e]; simp
         . exact h2 k
 . exact ⟨h1, h2⟩
theorem c5m {R : List Chg} (h : ∀ c ∈ R, M8 c) (id : Str) : b5q (abF R id) := by
 obtain ⟨h1, h2⟩ := b5K R id; refine ⟨h1.elim (h _) fun e => by rw [e]; exact b2G, fun k => (h2 k).elim (h _) fun e => by rw [e]; exact b2G⟩
theorem b6B {E : List W2} {R : List Chg} (hE : a0c E = S4 R) : E.map (·.1) = (S4 R).map (·.1) := by
 rw [<- hE]; simp [a0c, Function.comp_def]
theorem c2x {E1 E2 : List W2} {i : Str} {a a' : Abt} {b v : Nat} : Q4 (E1 ++ (i, a', b, v) :: E2) = Q4 (E1 ++ (i, a, b, v) :: E2) := by simp [Q4]
theorem b1S (i : Str) (a : Abt) (b v : Nat) : a3b (i, a, b, v) = abH b v a := rfl
theorem c2z (s r m : Nat) (R : List Chg) (E : List W2) (hE : a0c E = S4 R) (hR : ∀ c ∈ R, M8 c) (c : Chg) (hc : M8 c) :
   G1 prog 13 [.d (.raw (va s)), .d (A3 c)] (stH s r m R E) (fun x hs' => x = .d (.int .i64 (I0 R c)) /\ ∃ E', a0c E' = S4 (K1 R c) /\ hs' = stH s r m (K1 R c) E') := by
 have hnd : (E.map (·.1)).Nodup := by rw [b6B hE]; exact a3W R
 by_cases hrej : I6 c ≠ 0 \/ c ∈ R \/ 4096 <= R.length
 . have e1 : K1 R c = R := by
     unfold K1; rw [if_neg]; rintro ⟨h1, h2, h3⟩; rcases hrej with h | h | h
     . exact h h1
     . exact h2 h
     . omega
   rw [e1]; refine ((c0d s r m R E c hc hrej).frame (E.flatMap a3b)).post ?_; rintro x hs' ⟨h1, rfl, rfl, rfl⟩; exact ⟨rfl, E, hE, rfl⟩
 . have h0 : I6 c = 0 := by
     refine Classical.byContradiction fun h => hrej (.inl h)
   have h1 : c ∉ R := fun h => hrej (.inr (.inl h))
   have h2 : R.length < 4096 := by
     refine Classical.byContradiction fun h => hrej (.inr (.inr (by omega)))
   have e1 : K1 R c = R ++ [c] := by unfold K1; rw [if_pos ⟨h0, h1, h2⟩]
   have e2 : I0 R c = 0 := by
     unfold I0; rw [if_neg (by simpa using h0), if_neg h1, if_neg (by omega)]
   rw [e1, e2]; by_cases hk : ∃ e ∈ E, e.1 = idC c
   . obtain ⟨⟨i, a, b, v⟩, he, hi⟩ := hk; simp only at hi; subst hi; obtain ⟨E1, E2, rfl⟩ := append_of_mem he; have hmem : (idC c, a) ∈ S4 R := by rw [<- hE]; exact mem_map.2 ⟨_, he, rfl⟩
     have ha : b5q a := by rw [(a6G.1 hmem).2]; exact c5m hR _
     have hc1 := ((c1h s r m R (E1 ++ (idC c, a, b, v) :: E2) c a b v hnd he ha hc h0 h1 h2).frame (E1.flatMap a3b ++ E2.flatMap a3b)).perm (hs2 := stH s r m R (E1 ++ (idC c, a, b, v) :: E2)) (by
       simp only [stH, flatMap_append, flatMap_cons, append_assoc, b1S]; refine perm_append_left_iff _ |>.2 ?_
       rw [<- append_assoc, <- append_assoc]; exact Perm.append_right _ perm_append_comm)
     refine hc1.permOut ?_; rintro x hs' ⟨h1', rfl, rfl, rfl⟩; refine ⟨stH s r m (R ++ [c]) (E1 ++ (idC c, O7 a c, b, v) :: E2), ?_, rfl, E1 ++ (idC c, O7 a c, b, v) :: E2, ?_, rfl⟩
     . simp only [stH, U2, flatMap_append, flatMap_cons, append_assoc, b1S, c2x (a := a) (a' := O7 a c)]; refine perm_append_left_iff _ |>.2 ?_
       rw [<- append_assoc, <- append_assoc]; exact Perm.append_right _ perm_append_comm
     . rw [a5f, <- hE]; have hd1 : ∀ e ∈ E1, ¬ e.1 = idC c := fun e he' q => by
         rw [map_append, nodup_append] at hnd; exact hnd.2.2 e.1 (mem_map.2 ⟨e, he', rfl⟩) (idC c) (by simp) q
       have hd2 : ∀ e ∈ E2, ¬ e.1 = idC c := fun e he' q => by
         rw [map_append, nodup_append] at hnd; have := hnd.2.1; rw [map_cons, nodup_cons] at this; exact this.1 (by rw [<- q]; exact mem_map.2 ⟨e, he', rfl⟩)
       unfold a4q; rw [if_pos (by simp [a0c])]; simp only [a0c, map_append, map_cons, map_map, if_true]; congr 1
       . refine map_congr_left fun e he' => ?_
         simp only [Function.comp_apply, if_neg (hd1 e he')]
       . congr 1
         refine map_congr_left fun e he' => ?_
         simp only [Function.comp_apply, if_neg (hd2 e he')]
   . have hnew : ∀ e ∈ E, e.1 ≠ idC c := fun e he q => hk ⟨e, he, q⟩
     have hc1 := (c0F s r m R E c hnew hc h0 h1 h2).frame (E.flatMap a3b); refine hc1.permOut ?_; rintro x hs' ⟨h1', rfl, rfl, b, v, rfl⟩; refine ⟨_, ?_, rfl, E ++ [(idC c, O7 P3 c, b, v)], ?_, rfl⟩
     . simp only [stH, flatMap_append, flatMap_cons, flatMap_nil, append_nil, append_assoc, b1S]; exact perm_append_left_iff _ |>.2 perm_append_comm
     . rw [a5f, <- hE]; unfold a4q a0c; rw [if_neg]
       . simp
       . simp only [any_map, any_eq_true, Function.comp_apply, decide_eq_true_eq, not_exists, not_and]; exact hnew
theorem c0Q : G1 prog 11 [] [] (fun x hs' => ∃ s r m, x = .d (.raw (va s)) /\ hs' = stH s r m [] []) := by
 refine S3 (fun i => i == 1000004) (by kernel_rfl) func11 (by kernel_rfl) rfl rfl (nbl rfl) (by kernel_rfl) rfl ?_; simp -implicitDefEqProofs [A5]; refine a8A 35 1000001 (by simp [A5]) (fun r => ?_); simp -implicitDefEqProofs [A5]; refine a8A 9 1000002 (by simp [A5]) (fun m => ?_); simp -implicitDefEqProofs [A5]; refine ⟨1000000, by simp [A5], fun s => ?_⟩; simp -implicitDefEqProofs [A5]; exact ⟨.d (.raw (va s)), [1000000, 1000001, 1000002], by simp, by simp [A5, isH], by simp [a0A, A5], s, rfl, r, m, by simp [A5, stH, U2, R6, Q4]⟩
def OtJ (A q : D) (R : List D) (x y : D) (b : Nat -> Bool) (σ : St) : Prop :=
 σ 5 = .d A /\ σ 8 = .box q /\ (b 0 = true -> σ 40 = .d q) /\ (b 1 = true -> b 4 = false -> σ 41 = .own false 121 [q]) /\ (b 2 = true -> σ 42 = .d A) /\ (b 3 = true -> σ 43 = .d (.sl R)) /\ (b 4 = true -> σ 44 = .own false 121 (q :: R)) /\
 (b 5 = true -> b 6 = false -> σ 45 = .tup [.d x, .d y]) /\ (b 6 = true -> σ 39 = .tup [.d x, .d y]) /\ (b 7 = true -> σ 46 = .d x) /\ (b 8 = true -> σ 47 = .d y) /\ (b 9 = true -> σ 9 = .d x)
def a2D (v id : Str) : Str := v.take (min v.length (256 - (id.length + 1))) ++ 35 :: id
def a7v (own id : Str) : List F8 := match (D3 own).1 with
 | [] => []
 | p :: l => (p.1, a2D p.2 id) :: l
def a5x (own id : Str) : Str := (F9 (a7v own id)).1
theorem c2T (own id : Str) (ho : List.length own < 900000) (hi : List.length id < 200) (hp : (D3 own).1 ≠ []) : Ctr prog 89 [.d (.str own), .d (.str id)] (.d (.str (a5x own id))) := by
 have c1 := b2k own ho; obtain ⟨p, l, hpl⟩ : ∃ p l, (D3 own).1 = p :: l := by
   cases h : (D3 own).1 with
   | nil => exact absurd h hp
   | cons p l => exact ⟨p, l, rfl⟩
 have hoth : a7v own id = (p.1, a2D p.2 id) :: l := (by simp [a7v, hpl]); have hfit : a5t (a7v own id) := by
   have h1 := S2 own; rw [hpl] at h1; rw [hoth]; refine ⟨by simpa using h1.1, fun q hq => ?_⟩; rcases mem_cons.1 hq with rfl | hq
   . have := h1.2 p (by simp); refine ⟨this.1, ?_⟩; simp only [a2D, length_append, length_take, length_cons]; omega
   . exact h1.2 q (by simp [hq])
 have c2 := a6i _ hfit; rw [hpl] at c1; obtain ⟨e1, he1⟩ : ∃ e1, (D3 own).2 = e1 := ⟨_, rfl⟩; rw [he1] at c1; obtain ⟨S, hS⟩ : ∃ S, F9 (a7v own id) = S := ⟨_, rfl⟩; have hos : a5x own id = S.1 := by rw [<- hS]; rfl
 rw [hS] at c2; rw [hos]; rw [hoth] at c2; refine fv (fun i => i == 9000003 || i == 8000004) func89 (by kernel_rfl) rfl rfl rfl rfl rfl ?_; simp -implicitDefEqProofs; refine A0 c1 ?_; simp -implicitDefEqProofs [F2, E9]; refine ⟨by omega, ⟨by omega, by omega⟩, ?_⟩; have hmin : ((if (256 : Int) - ((List.length id : Nat) + 1) < (List.length p.2 : Nat) then (256 : Int) - ((List.length id : Nat) + 1) else (List.length p.2 : Nat)) : Int) = ((min p.2.length (256 - (id.length + 1)) : Nat) : Int) := by
   split <;> omega
 have hcut : a2D p.2 id = p.2.take (min p.2.length (256 - (id.length + 1))) ++ 35 :: id := rfl; have hm0 : min p.2.length (256 - (id.length + 1)) <= p.2.length := Nat.min_le_left _ _; generalize min p.2.length (256 - (id.length + 1)) = m at *; simp -implicitDefEqProofs [F2, E9, hmin]; refine ⟨hm0, by have := Nat.min_le_left m (List.length p.2); have := S2 own; rw [hpl] at this; have := (this.2 p (by simp)).2; omega, ?_⟩; have hl8 : l.length < 1000000 := by have := (hoth ▸ hfit : a5t ((p.1, a2D p.2 id) :: l)).1; simp at this; omega
 refine c2k (OtJ (F2 (p :: l)) (E9 (p.1, a2D p.2 id)) (l.map E9) (.str S.1) (.int .i64 S.2)) (by kernel_rfl) (by simp [OtJ, F2, E9, hcut]) ?_ (fun b σ hb hJ => ?_)
 . rintro b i o ho hbi hdep σ ⟨a5, a8, w0, w1, w2, w3, w4, w5, w6, w7, w8, w9⟩ K' hK; have hi : i < 11 := (Array.getElem?_eq_some_iff.1 ho).1
   match i, hi with
   | 0, _ =>
     simp only [getElem?_toArray, getElem?_cons_zero, getElem?_cons_succ, Option.some.injEq] at ho; subst ho; simp [Region.binds] at hdep; simp -implicitDefEqProofs [a8]; exact ⟨⟨rfl, rfl⟩, hK _ (by simp +contextual [OtJ, a5, a8, w0, w1, w2, w3, w4, w5, w6, w7, w8, w9])⟩
   | 1, _ =>
     simp only [getElem?_toArray, getElem?_cons_zero, getElem?_cons_succ, Option.some.injEq] at ho; subst ho; simp [Region.binds] at hdep; simp -implicitDefEqProofs [w0 hdep]; exact ⟨rfl, hK _ (by simp +contextual [OtJ, a5, a8, w0, w1, w2, w3, w4, w5, w6, w7, w8, w9])⟩
   | 2, _ =>
     simp only [getElem?_toArray, getElem?_cons_zero, getElem?_cons_succ, Option.some.injEq] at ho; subst ho; simp [Region.binds] at hdep; simp -implicitDefEqProofs [a5]; exact hK _ (by simp +contextual [OtJ, a5, a8, w0, w1, w2, w3, w4, w5, w6, w7, w8, w9])
   | 3, _ =>
     simp only [getElem?_toArray, getElem?_cons_zero, getElem?_cons_succ, Option.some.injEq] at ho; subst ho; simp [Region.binds] at hdep; simp -implicitDefEqProofs [w2 hdep, F2, ttl (show (l.map E9).length <= l.length by simp)]; exact ⟨⟨rfl, fun u a b _ h => h ▸ rfl⟩, hK _ (by simp +contextual [OtJ, a5, a8, w0, w1, w2, w3, w4, w5, w6, w7, w8, w9])⟩
   | 4, _ =>
     simp only [getElem?_toArray, getElem?_cons_zero, getElem?_cons_succ, Option.some.injEq] at ho; subst ho; simp [Region.binds] at hdep; simp -implicitDefEqProofs [w1 hdep.1 hbi, w3 hdep.2]; exact ⟨fun u a b _ h => h ▸ rfl, by omega, by omega, hK _ (by simp +contextual [OtJ, a5, a8, w0, w1, w2, w3, w4, w5, w6, w7, w8, w9])⟩
   | 5, _ =>
     simp only [getElem?_toArray, getElem?_cons_zero, getElem?_cons_succ, Option.some.injEq] at ho; subst ho; simp [Region.binds] at hdep; simp -implicitDefEqProofs [w4 hdep]; refine A0 c2 ?_; simp -implicitDefEqProofs []; exact hK _ (by simp +contextual [OtJ, a5, a8, w0, w1, w2, w3, w4, w5, w6, w7, w8, w9])
   | 6, _ =>
     simp only [getElem?_toArray, getElem?_cons_zero, getElem?_cons_succ, Option.some.injEq] at ho; subst ho; simp [Region.binds] at hdep; simp -implicitDefEqProofs [w5 hdep hbi]; exact hK _ (by simp +contextual [OtJ, a5, a8, w0, w1, w2, w3, w4, w5, w6, w7, w8, w9])
   | 7, _ =>
     simp only [getElem?_toArray, getElem?_cons_zero, getElem?_cons_succ, Option.some.injEq] at ho; subst ho; simp [Region.binds] at hdep; simp -implicitDefEqProofs [w6 hdep]; exact hK _ (by simp +contextual [OtJ, a5, a8, w0, w1, w2, w3, w4, w5, w6, w7, w8, w9])
   | 8, _ =>
     simp only [getElem?_toArray, getElem?_cons_zero, getElem?_cons_succ, Option.some.injEq] at ho; subst ho; simp [Region.binds] at hdep; simp -implicitDefEqProofs [w6 hdep]; exact hK _ (by simp +contextual [OtJ, a5, a8, w0, w1, w2, w3, w4, w5, w6, w7, w8, w9])
   | 9, _ =>
     simp only [getElem?_toArray, getElem?_cons_zero, getElem?_cons_succ, Option.some.injEq] at ho; subst ho; simp [Region.binds] at hdep; simp -implicitDefEqProofs [w7 hdep.1]; exact hK _ (by simp +contextual [OtJ, a5, a8, w0, w1, w2, w3, w4, w5, w6, w7, w8, w9])
   | 10, _ =>
     simp only [getElem?_toArray, getElem?_cons_zero, getElem?_cons_succ, Option.some.injEq] at ho; subst ho; simp [Region.binds] at hdep; simp -implicitDefEqProofs [w8 hdep.1]; exact hK _ (by simp +contextual [OtJ, a5, a8, w0, w1, w2, w3, w4, w5, w6, w7, w8, w9])
 . obtain ⟨_, _, _, _, _, _, _, _, _, _, _, w9⟩ := hJ; simp -implicitDefEqProofs [w9 (hb 9 (by simp))]
def P4 (R : List Chg) (id : Str) : Bool := decide (J1 (P2 R (A9 R)) (G2 R id) = some id)
def C7 (R : List Chg) (id : Str) : Str := if P4 R id then G2 R id else a5x (G2 R id) id
def a1Z (R : List Chg) : SM := (A9 R).map fun id => (id, C7 R id)
def smD (g : Nat) (N : SM) (bs : List Nat) (clk : Nat) : D := .map (.map (some g)) (N.map fun p => .str p.1) (N.map fun p => .str p.2) bs clk
theorem b4X (m : SM) : (P0 m).map (·.1) = m.map fun p => D.str p.1 := by simp [P0, Function.comp_def]
theorem c2n (m : SM) : (P0 m).map (·.2) = m.map fun p => D.str p.2 := by simp [P0, Function.comp_def]
theorem c1Q (m : SM) : (m.map fun p => D.str p.1).zip (m.map fun p => D.str p.2) = P0 m := by
 induction m with
 | nil => rfl
 | cons p m ih => simp only [map_cons, zip_cons_cons, ih, P0]
theorem c5B {f : FuncId} {args : List AV} {m : SM} (h : G1 prog f args [] (fun r hs' => ∃ g, r = .d (.raw (.map (some g))) /\ hs' = [.hm (.map (some g)) 9 (P0 m) none])) :
   G1 prog f args [] (fun r hs' => hs' = [] /\ ∃ g N bs clk, Perm N m /\ r = .d (smD g N bs clk)) := by
 refine h.frzMap ?_; rintro r hs' ⟨g, rfl, rfl⟩; refine ⟨g, 9, P0 m, rfl, rfl, fun m' bs clk hp => ?_⟩; obtain ⟨N, n1, n2⟩ := a2l hp rfl; refine ⟨rfl, g, N, bs, clk, n1, ?_⟩; have e : m' = P0 N := n2.symm; rw [e, b4X, c2n]; rfl
theorem b0w {m N : SM} (h : Perm N m) (hn : (m.map (·.1)).Nodup) (k : Str) : J1 N k = J1 m k := by
 have e1 : M6 (P0 N) (.str k) = M6 (P0 m) (.str k) := b3q (P := prog) (kt := 9) (h.map _) (by
   show ((P0 m).map (·.1)).Nodup
   rw [b4X]; have : (m.map fun p => D.str p.1) = (m.map (·.1)).map .str := by simp [Function.comp_def]
   rw [this]; exact (pairwise_map).2 (hn.imp fun hab e => hab (by simpa using e))) (G4 k)
 rw [a3w, a3w] at e1; cases h1 : J1 N k <;> cases h2 : J1 m k <;> rw [h1, h2] at e1 <;> simp at e1 <;> simp [e1]
theorem c0R {m : SM} {k v v' : Str} (h : J1 m k = none) : S1 (P0 (m ++ [(k, v)])) (.str k) (.str v') = P0 (m ++ [(k, v')]) := by
 have hne : ∀ p ∈ m, ¬ p.1 = k := by
   simp only [J1, Option.map_eq_none_iff, find?_eq_none] at h; intro p hp; simpa using h p hp
 unfold S1; rw [if_pos (by simp [P0, L3])]; simp only [P0, map_append, map_map, map_cons, map_nil]; congr 1
 . refine map_congr_left fun p hp => ?_
   simp [L3, hne p hp]
 . simp [L3]
theorem a6J {m : SM} {k : Str} : J1 m k = none ↔ ∀ p ∈ m, p.1 ≠ k := by
 simp [J1, find?_eq_none]
theorem a2g (R : List Chg) : SS (A9 R) := by
 have h1 : (A9 R).Pairwise fun x y => ¬ y < x := a4S (a2M R)
 have h2 : (A9 R).Nodup := (mergeSort_perm _ _).nodup_iff.2 (Nodup.sublist (filter_sublist.map _) (a3W R)); exact (Pairwise.and h1 h2).imp fun {a b} h => (Classical.byContradiction fun hn => h.2 (a1f hn h.1))
theorem X7 (R : List Chg) : (A9 R).Nodup := (a2g R).nodup
structure d3t (R : List Chg) : Prop where
 ok : ∀ c ∈ R, I6 c = 0
 few : R.length <= 4096
structure b4L (own id : Str) : Prop where
 parse : (D3 own).1 ≠ []
 own : List.length own < 900000
 short : List.length id < 200
 ne : id ≠ []
def a3e (R : List Chg) (l : List Str) : SM := l.map fun id => (id, C7 R id)
theorem b8E (R : List Chg) (l : List Str) (id : Str) : a3e R (l ++ [id]) = a3e R l ++ [(id, C7 R id)] := by simp [a3e]
theorem b7A {R : List Chg} {l : List Str} {id : Str} (h : id ∉ l) : J1 (a3e R l) id = none := by
 rw [a6J]; intro p hp; obtain ⟨x, hx, rfl⟩ := mem_map.1 hp; rintro rfl; exact h hx
def DiI (R : List Chg) (sd : D) (g g2 : Nat) (k : Nat) (τ : St) : Prop := τ 0 = .d sd /\ τ 3 = .d (.raw (.map (some g))) /\ τ 4 = .d (.raw (.map (some g2))) /\ τ 12 = .own false 9 ((A9 R).map .str) /\ τ 13 = .d (.int .i64 (A9 R).length) /\ τ 14 = .d (.int .i64 k) /\
 τ 1000000 = .hm (.map (some g)) 9 (P0 (P2 R (A9 R))) none /\ τ 1000001 = .hm (.map (some g2)) 9 (P0 (a3e R ((A9 R).take k))) none
theorem b4G (R : List Chg) (d : D) (hd : StD R d) (hl : (S4 R).length < 100000) (hN : ∀ id ∈ A9 R, b4L (G2 R id) id) : G1 prog 42 [.d d] [] (fun r hs' => ∃ g, r = .d (.raw (.map (some g))) /\ hs' = [.hm (.map (some g)) 9 (P0 (a1Z R)) none]) := by
 obtain ⟨u1, R1, bs1, c1, u2, M, bs2, c2, rfl, hR1, hM⟩ := hd.open; have hll := Q6 R; have hlv := a4f R _ hd hl; have how := b3r R _ hd hl; refine S3 (fun i => i == 5000009) (by kernel_rfl) func42 (by kernel_rfl) rfl rfl (nbl rfl) (by kernel_rfl) rfl ?_; simp -implicitDefEqProofs [A5]; refine N1 [] 1000000 how rfl rfl (by simp) ?_; rintro r hs' ⟨g, rfl, rfl⟩; simp -implicitDefEqProofs [A5, E7, D8]; refine a8A 9 1000001 (by simp [A5]) (fun g2 => ?_); simp -implicitDefEqProofs [A5]; refine A0 hlv ?_; simp -implicitDefEqProofs [A5]; obtain ⟨sd, hsd⟩ : ∃ sd, U3 u1 R1 bs1 c1 u2 M bs2 c2 = sd := ⟨_, rfl⟩; refine F3 (A9 R).length (DiI R sd g g2) ⟨by simp [A5, <- hsd], by simp [A5], by simp [A5], by simp [A5], by simp [A5], by simp [A5], by simp [A5], by simp [A5, a3e, P0]⟩ ?_; rintro k τ hk ⟨g0, g3, g4, g12, g13, g14, gA, gB⟩; by_cases hlt : k < (A9 R).length
 . have hlt' : (k : Int) < (A9 R).length := (by omega); obtain ⟨id, hid⟩ : ∃ id, (A9 R)[k] = id := ⟨_, rfl⟩; have hin : id ∈ A9 R := by rw [<- hid]; exact gmm _
   obtain ⟨d, hg1, hab⟩ := hM.live hin; obtain ⟨u, V, bs, clk, hd1, hV⟩ := hab; have htk : (A9 R).take (k + 1) = (A9 R).take k ++ [id] := by rw [F6 hlt, hid]
   have hsn := b8E R ((A9 R).take k) id; rw [<- htk] at hsn; have hnew : J1 (a3e R ((A9 R).take k)) id = none := b7A fun hm => by
     have := X7 R; rw [<- take_append_drop k (A9 R), nodup_append] at this; exact this.2.2 id hm id (by rw [drop_eq_getElem_cons hlt, hid]; simp) rfl
   have chg_eq : A3 (abF R id).nm = .agg [A4 (abF R id).nm.1, .int .i64 (abF R id).nm.2.1, .str (abF R id).nm.2.2.1, .str (G2 R id), .str (abF R id).nm.2.2.2.2.1, .str (abF R id).nm.2.2.2.2.2] := rfl; have hmg := a3w (P2 R (A9 R)) (G2 R id); have hsh : C7 R id = if P4 R id then G2 R id else a5x (G2 R id) id := rfl
   have hob : P4 R id = decide (J1 (P2 R (A9 R)) (G2 R id) = some id) := rfl; have hn := hN id hin; have hot := c2T (G2 R id) id hn.own hn.short hn.parse; have hlk : ∃ r w, M6 (P0 (P2 R (A9 R))) (.str (G2 R id)) = r /\ a1c false (.str []) r = .d (.str w) /\ (decide (w = id) = P4 R id) := by
     rw [hmg, hob]; cases h : J1 (P2 R (A9 R)) (G2 R id) with
     | none => exact ⟨none, [], rfl, rfl, by simp [Ne.symm hn.ne]⟩
     | some v => exact ⟨some (.str v), v, rfl, rfl, by simp⟩
   obtain ⟨r, w, hr1, hr2, hr3⟩ := hlk; rw [<- a6e] at hg1; rw [hd1] at hg1; generalize a5x (G2 R id) id = OT at *; rcases Classical.em (w = id) with hw | hw
   all_goals
     simp -implicitDefEqProofs [g0, g3, g4, g12, g13, g14, <- hsd, U3, hlt, hlt', hid]; refine a0a a3Y (G4 _) (a5a M) Tryz.zd_75 hg1 ?_; simp -implicitDefEqProofs [g0, g3, g4, g12, g13, g14, N0, chg_eq, A1]; refine a6L (m := P0 (a3e R ((A9 R).take k))) (E := none) 1000001 X5 (by simp [gB]) (G4 _) _ (Perm.refl _) ?_; rw [a7a hnew]; simp -implicitDefEqProofs [g0, g3, g4, g12, g13, g14]; refine a1d (m := P0 (P2 R (A9 R))) (E := none) 1000000 (by omega) X5 (by simp [gA]) (G4 _) Tryz.zd_9 hr1 ?_; rw [hr2]
   . have hb : P4 R id = true := by rw [<- hr3]; simpa using hw
     rw [hb, if_pos rfl] at hsh; simp -implicitDefEqProofs [g0, g3, g4, g12, g13, g14, hw]; (repeat refine ai (by omega) ?_); exact B8 hlt ⟨by simp [g0, <- hsd, U3], by simp [g3], by simp [g4], by simp [g12], by simp [g13], by simp, by simp [gA], by simp [hsn, hsh]⟩
   . have hb : P4 R id = false := by rw [<- hr3]; simpa using hw
     rw [hb] at hsh; simp only [Bool.false_eq_true, if_false] at hsh; simp -implicitDefEqProofs [g0, g3, g4, g12, g13, g14, hw]; refine A0 hot ?_; simp -implicitDefEqProofs [g0, g3, g4, g12, g13, g14, hw]; refine a6L (m := P0 (a3e R ((A9 R).take k) ++ [(id, G2 R id)])) (E := none) 1000001 X5 (by simp) (G4 _) _ (Perm.refl _) ?_; rw [c0R hnew]; simp -implicitDefEqProofs [g0, g3, g4, g12, g13, g14]; (repeat refine ai (by omega) ?_); exact B8 hlt ⟨by simp [g0, <- hsd, U3], by simp [g3], by simp [g4], by simp [g12], by simp [g13], by simp, by simp [gA], by simp [hsn, hsh]⟩
 . have hlt' : ¬ (k : Int) < (A9 R).length := (by omega); rw [ttl (by omega)] at gB; simp -implicitDefEqProofs [g0, g3, g4, g12, g13, g14, hlt, hlt']; exact ⟨_, [1000001], by simp, by simp [gB, isH], by simp [a0A], g2, rfl, by simp [gB, a1Z, a3e]⟩
end Go.Proofs.Tz