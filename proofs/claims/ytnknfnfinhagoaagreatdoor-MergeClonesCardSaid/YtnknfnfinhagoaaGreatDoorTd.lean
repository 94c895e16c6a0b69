/-
  What the functions that the statements about merged states reach compute, part 4 of 6, for data of bounded size (each theorem states its bound).
-/import Derived.Test.YtnknfnfinhagoaaGreatDoorTc
import Derived.Test.YtnknfnfinhagoaaGreatDoorTa
import Derived.Test.YtnknfnfinhagoaaGreatDoorWc
import Derived.Lib.AppendZeros
import Derived.Test.YtnknfnfinhagoaaGreatDoorTb
import Derived.Test.YtnknfnfinhagoaaGreatDoorWd
open List
open Go.Proofs.Tryz
set_option linter.unusedSimpArgs false
set_option linter.unusedVariables false
set_option maxRecDepth 100000
set_option maxHeartbeats 8000000
namespace Go.Proofs.Tz
open Go.Vw Go.RowKit Go.Proofs
abbrev a0H (a b : Str) : Int := Go.Lib.compareBytes a b
theorem b2V : ∀ (a b : Str), a0H a b = if a < b then -1 else if b < a then 1 else 0
 | [], [] => by simp [a0H, Go.Lib.compareBytes]
 | [], b :: bs => by simp [a0H, Go.Lib.compareBytes]
 | a :: l, [] => by simp [a0H, Go.Lib.compareBytes]
 | a :: l, b :: bs => by
   have ih := b2V l bs; simp only [a0H, Go.Lib.compareBytes] at ih ⊢; simp only [cons_lt_cons_iff]; by_cases h1 : a < b
   · simp [h1]
   · by_cases h2 : b < a
     · have hne : ¬ a = b := by rintro rfl; exact h1 h2
       have hne' : ¬ b = a := fun e => hne e.symm
       simp [h1, h2, hne, hne']
     · have he : a = b := UInt8.le_antisymm (by simpa using h2) (by simpa using h1); subst he; simp [h1, ih]
theorem b4r {a b : Str} : a0H a b = 0 ↔ a = b := by
 rw [b2V]; constructor
 · intro h; by_cases h1 : a < b
   · rw [if_pos h1] at h; simp at h
   · by_cases h2 : b < a
     · rw [if_neg h1, if_pos h2] at h; simp at h
     · rw [List.not_lt] at h1 h2; exact List.le_antisymm h2 h1
 · rintro rfl; rw [if_neg (List.lt_irrefl a), if_neg (List.lt_irrefl a)]
theorem b6l {a b : Str} : a0H a b < 0 ↔ a < b := by
 rw [b2V]; by_cases h1 : a < b
 · simp [h1]
 · by_cases h2 : b < a
   · simp [h1, h2]
   · simp [h1, h2]
set_option maxHeartbeats 1000000 in
theorem b5Q (a b : Str) (w : World) : Calls prog 127 #[.string ⟨a.toArray⟩, .string ⟨b.toArray⟩] w fun e w' => e = .returned (.int .i64 (a0H a b)) ∧ w' = w := by
 go_enter func127, Tryz.ntmps127
 go_wp2
 rw [run_callFunc_extern func182 (by kernel_rfl) (by kernel_rfl) (by kernel_rfl) (e := Extern.BytealgCompare.compare) (by kernel_rfl), Lib.run_compareString]; simp only [Result.andThen]; rw [Oper.upon_value]
 go_wp2
 go_ret
 simp [a0H]
theorem b7x (a b : Str) : Ctr prog 127 [.d (.str a), .d (.str b)] (.d (.int .i64 (a0H a b))) := by
 refine Ctr.same (xs := [.str a, .str b]) (enters_of func127 (by kernel_rfl) rfl) (b5Q a b) (fun w L og vals h => ?_) (fun w L => RepV.int); obtain ⟨v, us, rfl, h1, v2, us2, rfl, h2, h3⟩ := h; obtain rfl : us2 = [] := h3; obtain rfl := RepV.str_inv h1; obtain rfl := RepV.str_inv h2; rfl
theorem a7M (a b : Str) : Ctr prog 77 [.d (.str a), .d (.str b)] (.d (.int .i64 (a0H a b))) := by
 refine fv (fun _ => false) func77 (by kernel_rfl) rfl rfl rfl rfl rfl ?_; simp -implicitDefEqProofs; refine A3 (b7x a b) ?_; simp -implicitDefEqProofs
end Go.Proofs.Tz
namespace Go.Proofs.Tz
open Go.Vw Go.RowKit Go.Proofs Go.Sort
abbrev d3C := {c : Chg // S6 c}
instance : Inhabited d3C := ⟨⟨M6, ⟨by simp [M6], by simp [M6], by simp [M6], by simp [M6]⟩⟩⟩
end Go.Proofs.Tz
namespace Go.Proofs.Tz
open Go.Vw Go.RowKit Go.Proofs
end Go.Proofs.Tz
namespace Go.Proofs.Tz
open Go.Vw Go.RowKit Go.Proofs Go.Sort
end Go.Proofs.Tz
namespace Go.Proofs.Tz
open Go.Vw Go.RowKit Go.Proofs
def X0 (s : Str) : Str × Bool := match M7 s with
 | some (p :: l) => ((H7 l).1, true)
 | _ => ([], false)
def T5 (a b : Str) : Int := if a < b then -1 else if b < a then 1 else 0
theorem a3Z {a b : Str} : T5 a b = 0 ↔ a = b := by
 unfold T5; constructor
 · intro h; split at h
   · cases h
   · split at h
     · cases h
     · rename_i h1 h2; exact a2U h1 h2
 · rintro rfl; simp [a5F]
theorem a4U {a b : Str} : T5 a b < 0 ↔ a < b := by
 unfold T5; split
 · rename_i h; simp [h]
 · rename_i h
   simp only [h, iff_false]; split <;> omega
theorem c2u (a : Str) : T5 a a = 0 := a3Z.2 rfl
theorem a8i (a b : Str) : T5 b a = - T5 a b := by
 unfold T5; by_cases h1 : a < b
 · have h2 : ¬ b < a := fun h => a5F _ (a1U h1 h)
   simp [h1, h2]
 · by_cases h2 : b < a
   · simp [h1, h2]
   · simp [h1, h2]
def a0w (p q : G1) : Int := if T5 p.1 q.1 = 0 then T5 p.2 q.2 else T5 p.1 q.1
theorem a5N {p q : G1} : a0w p q = 0 ↔ p = q := by
 unfold a0w; split
 · rename_i h
   rw [a3Z] at h ⊢; obtain ⟨a, b⟩ := p; obtain ⟨c, d⟩ := q; simp only at h; simp [h]
 · rename_i h
   constructor
   · intro h2; exact absurd h2 h
   · rintro rfl; exact absurd (c2u _) h
theorem c1Q (p q : G1) : a0w q p = - a0w p q := by
 unfold a0w; rw [a8i p.1 q.1]; by_cases h : T5 p.1 q.1 = 0
 · simp [h, a8i p.2 q.2]
 · have h' : ¬ (- T5 p.1 q.1 = 0) := (by omega); rw [if_neg h, if_neg h']
def ltP (p q : G1) : Prop := p.1 < q.1 ∨ (p.1 = q.1 ∧ p.2 < q.2)
theorem b1k {p q : G1} : a0w p q < 0 ↔ ltP p q := by
 unfold a0w ltP; by_cases h : T5 p.1 q.1 = 0
 · rw [if_pos h, a4U]; rw [a3Z] at h; constructor
   · intro h2; exact .inr ⟨h, h2⟩
   · rintro (h2 | h2)
     · rw [h] at h2; exact absurd h2 (a5F _)
     · exact h2.2
 · rw [if_neg h, a4U]; constructor
   · exact .inl
   · rintro (h2 | h2)
     · exact h2
     · exact absurd (a3Z.2 h2.1) h
theorem c0y {p q r : G1} (h1 : ltP p q) (h2 : ltP q r) : ltP p r := by
 rcases h1 with h1 | ⟨e1, h1⟩ <;> rcases h2 with h2 | ⟨e2, h2⟩
 · exact .inl (a1U h1 h2)
 · exact .inl (e2 ▸ h1)
 · exact .inl (e1 ▸ h2)
 · exact .inr ⟨e1.trans e2, a1U h1 h2⟩
def Q9 : List G1 → List G1 → Int
 | [], [] => 0
 | [], _ :: _ => -1
 | _ :: _, [] => 1
 | p :: l, q :: m => if a0w p q = 0 then Q9 l m else a0w p q
theorem b3X : ∀ {l m : List G1}, Q9 l m = 0 ↔ l = m
 | [], [] => by simp [Q9]
 | [], _ :: _ => by simp [Q9]
 | _ :: _, [] => by simp [Q9]
 | p :: l, q :: m => by
   simp only [Q9]; split
   · rename_i h
     rw [b3X, a5N.1 h]; simp
   · rename_i h
     constructor
     · intro h2; exact absurd h2 h
     · intro e; simp only [List.cons.injEq] at e; exact absurd (a5N.2 e.1) h
theorem b4c : ∀ (l m : List G1), Q9 m l = - Q9 l m
 | [], [] => by simp [Q9]
 | [], _ :: _ => by simp [Q9]
 | _ :: _, [] => by simp [Q9]
 | p :: l, q :: m => by
   simp only [Q9]; rw [c1Q p q, b4c l m]; by_cases h : a0w p q = 0
   · simp [h]
   · have h' : ¬ (- a0w p q = 0) := (by omega); rw [if_neg h, if_neg h']
theorem b1H : ∀ {l m n : List G1}, Q9 l m < 0 → Q9 m n < 0 → Q9 l n < 0
 | [], [], _, h, _ => by simp [Q9] at h
 | [], _ :: _, [], _, h => by simp [Q9] at h
 | [], _ :: _, _ :: _, _, _ => by simp [Q9]
 | _ :: _, [], _, h, _ => by simp [Q9] at h
 | _ :: _, _ :: _, [], _, h => by simp [Q9] at h
 | p :: l, q :: m, r :: n, h1, h2 => by
   simp only [Q9] at h1 h2 ⊢; by_cases e1 : a0w p q = 0
   · have e1' := a5N.1 e1; subst e1'; rw [if_pos e1] at h1; by_cases e2 : a0w p r = 0
     · rw [if_pos e2] at h2 ⊢; exact b1H h1 h2
     · rw [if_neg e2] at h2 ⊢; exact h2
   · rw [if_neg e1] at h1; by_cases e2 : a0w q r = 0
     · have e2' := a5N.1 e2; subst e2'; rw [if_neg e1]; exact h1
     · rw [if_neg e2] at h2; have h3 := b1k.2 (c0y (b1k.1 h1) (b1k.1 h2)); have : a0w p r ≠ 0 := (by omega); rw [if_neg this]; exact h3
def a1p (a b : Str) : Int := match M7 a, M7 b with
 | some l, some m => Q9 l.reverse m.reverse
 | some _, none => -1
 | none, some _ => 1
 | none, none => T5 a b
theorem a5J {a b : Str} : a1p a b = 0 ↔ a = b := by
 unfold a1p; split
 · rename_i l m h1 h2
   rw [b3X]; constructor
   · intro h; have : l = m := by simpa using congrArg reverse h
     subst this; exact b4x h1 h2
   · rintro rfl; rw [h1] at h2; simp only [Option.some.injEq] at h2; rw [h2]
 · rename_i h1 h2
   simp only [Int.reduceNeg, Int.neg_eq_zero, Int.one_ne_zero, false_iff]; rintro rfl; rw [h1] at h2; cases h2
 · rename_i h1 h2
   simp only [Int.one_ne_zero, false_iff]; rintro rfl; rw [h1] at h2; cases h2
 · exact a3Z
theorem c1I (a b : Str) : a1p b a = - a1p a b := by
 unfold a1p; cases M7 a <;> cases M7 b <;> simp only [Int.neg_neg]
 · exact a8i a b
 · exact b4c _ _
theorem b9e {a b c : Str} (h1 : a1p a b < 0) (h2 : a1p b c < 0) : a1p a c < 0 := by
 unfold a1p at *; cases ha : M7 a <;> cases hb : M7 b <;> cases hc : M7 c <;> simp only [ha, hb, hc] at h1 h2 ⊢ <;> try omega
 · exact a4U.2 (a1U (a4U.1 h1) (a4U.1 h2))
 · exact b1H h1 h2
theorem b4h (a : Str) : a1p a a = 0 := a5J.2 rfl
theorem b3B (x : Str) : Ctr prog 203 [.d (.str x)] (.d (.bool false)) := by
 refine fv (fun _ => false) func203 (by kernel_rfl) rfl rfl rfl rfl rfl ?_; simp -implicitDefEqProofs
theorem b9o (x y : Str) : (x < y ∧ T5 x y = -1 ∧ Op.bytesLess x y = true) ∨ (y < x ∧ T5 x y = 1 ∧ Op.bytesLess x y = false ∧ decide (x = y) = false) ∨ (x = y ∧ T5 x y = 0) := by
 by_cases h1 : x < y
 · exact .inl ⟨h1, by simp [T5, h1], c7i.2 h1⟩
 by_cases h2 : y < x
 · refine .inr (.inl ⟨h2, by simp [T5, h1, h2], b3r.2 h1, ?_⟩); rw [decide_eq_false_iff_not]; rintro rfl; exact h1 h2
 · exact .inr (.inr ⟨a2U h1 h2, by simp [T5, h1, h2]⟩)
theorem a7U (x y : Str) : Ctr prog 164 [.d (.str x), .d (.str y)] (.d (.int .i64 (T5 x y))) := by
 refine fv (fun _ => false) func164 (by kernel_rfl) rfl rfl rfl rfl rfl ?_; have c1 := b3B x; have c2 := b3B y; rcases b9o x y with ⟨_, h1, h2⟩ | ⟨_, h1, h2, h3⟩ | ⟨h1, h2⟩
 · rw [h1]; simp -implicitDefEqProofs; refine A3 c1 ?_; simp -implicitDefEqProofs; refine A3 c2 ?_; simp -implicitDefEqProofs [h2]
 · rw [h1]; simp -implicitDefEqProofs; refine A3 c1 ?_; simp -implicitDefEqProofs; refine A3 c2 ?_; simp -implicitDefEqProofs [h2, h3]
 · rw [h2]; subst h1; have h3 : Op.bytesLess x x = false := b3r.2 (a5F x); simp -implicitDefEqProofs; refine A3 c1 ?_; simp -implicitDefEqProofs; refine A3 c2 ?_; simp -implicitDefEqProofs [h3]
theorem b9A (s : Str) : X0 s = if K9 s = true then (match (E7 s).1 with | _ :: l => ((H7 l).1, true) | [] => ([], false)) else ([], false) := by
 rw [X0, a7i]; by_cases h : K9 s = true
 · rw [if_pos h, if_pos h]; cases (E7 s).1 <;> rfl
 · rw [if_neg h, if_neg h]
theorem a9v.tail {p : G1} {l : List G1} (h : a9v (p :: l)) : a9v l := ⟨by have := h.1; simp at this; omega, fun q hq => h.2 q (by simp [hq])⟩
theorem b8k (s : Str) (hs : length s < 900000) : Ctr prog 67 [.d (.str s)] (.tup [.d (.str (X0 s).1), .d (.bool (X0 s).2)]) := by
 refine L9 (rv := .tmp 2) (rs := [.tmp 3]) (r := .d (.str (X0 s).1)) (ys := [.d (.bool (X0 s).2)]) (fun i => false) (by kernel_rfl) func67 (by kernel_rfl) rfl rfl (by simp) (nbl rfl) (by kernel_rfl) rfl rfl ?_; have c1 := a3j s hs; have hf := a1n s; rw [b9A]; generalize (E7 s).1 = l at *; simp only [K7] at c1; by_cases hv : K9 s = true
 · cases l with
   | nil =>
     simp -implicitDefEqProofs; refine A3 c1 ?_; simp -implicitDefEqProofs [hv]
   | cons p l =>
     rw [if_pos hv]; dsimp only; have c2 := a7h l hf.tail; have hlen : ¬ ((l.length : Int) + 1 = 0) := (by omega); have htk : take l.length (l.map P8) = l.map P8 := ttl (by simp); generalize H7 l = G at *; obtain ⟨t, g⟩ := G; simp only [K7] at c2; simp -implicitDefEqProofs; refine A3 c1 ?_; simp -implicitDefEqProofs [hv, hlen, htk]; refine ⟨⟨rfl, by rintro _ x y _ rfl; rfl⟩, ?_⟩; refine A3 c2 ?_; simp -implicitDefEqProofs
 · simp -implicitDefEqProofs; refine A3 c1 ?_; simp -implicitDefEqProofs [hv]
theorem b0i {l : List G1} {k : Nat} (h : k < l.length) : l.reverse[k]'(by simpa using h) = l[l.length - 1 - k]'(by omega) := by
 rw [getElem_reverse]
theorem c0h (l m : List G1) (k : Nat) (hk : k < l.length) (hk' : k < m.length) (hl : l.length < 1000000) (hm : m.length < 1000000) :
   Ctr prog 165 [.d (.int .i64 k), .d (.ref (K7 l)), .d (.ref (K7 m))] (.d (.int .i64 (a0w (l[l.length - 1 - k]'(by omega)) (m[m.length - 1 - k]'(by omega))))) := by
 refine fv (fun i => i == 9000001) func165 (by kernel_rfl) rfl rfl rfl rfl rfl ?_; have i1 : (0 : Int) ≤ (l.length : Int) - 1 - k := (by omega); have i2 : (0 : Int) ≤ (m.length : Int) - 1 - k := (by omega); have e1 : ((l.length : Int) - 1 - k).toNat = l.length - 1 - k := (by omega); have e2 : ((m.length : Int) - 1 - k).toNat = m.length - 1 - k := (by omega); have b1 : l.length - 1 - k < l.length := (by omega); have b2 : m.length - 1 - k < m.length := (by omega); generalize hx : l[l.length - 1 - k] = x; generalize hy : m[m.length - 1 - k] = y; obtain ⟨x1, x2⟩ := x; obtain ⟨y1, y2⟩ := y; have c1 := a7U x1 y1; have c2 := a7U x2 y2; have c3 := a7r [T5 x1 y1, T5 x2 y2] (by simp); have hor : orI [T5 x1 y1, T5 x2 y2] = a0w (x1, x2) (y1, y2) := by
   unfold a0w; simp only [orI]; by_cases h : T5 x1 y1 = 0
   · by_cases h' : T5 x2 y2 = 0 <;> simp [h, h']
   · simp [h]
 rw [hor] at c3; simp only [a2M, map_cons, map_nil] at c3; simp -implicitDefEqProofs [K7, i1, i2, e1, e2, b1, b2, hx, hy, P8]; (repeat refine ai (by omega) ?_); refine E4 c1 ?_; simp -implicitDefEqProofs; refine E4 c2 ?_; simp -implicitDefEqProofs; refine ⟨by decide, E4 c3 ?_⟩; simp -implicitDefEqProofs
theorem c1L {l m : List G1} {k : Nat} (hk : k < l.length) (hk' : k < m.length) : Q9 (l.reverse.drop k) (m.reverse.drop k) =
   if a0w (l[l.length - 1 - k]'(by omega)) (m[m.length - 1 - k]'(by omega)) = 0 then Q9 (l.reverse.drop (k + 1)) (m.reverse.drop (k + 1)) else a0w (l[l.length - 1 - k]'(by omega)) (m[m.length - 1 - k]'(by omega)) := by
 rw [drop_eq_getElem_cons (show k < l.reverse.length by simpa using hk), drop_eq_getElem_cons (show k < m.reverse.length by simpa using hk'), Q9, b0i hk, b0i hk']
theorem c3n {l m : List G1} {k : Nat} (hk : k = min l.length m.length) : Q9 (l.reverse.drop k) (m.reverse.drop k) = a0b l.length m.length := by
 rcases Nat.lt_trichotomy l.length m.length with h | h | h
 · have e1 : l.reverse.drop k = [] := drop_eq_nil_of_le (by simp; omega); rw [e1, drop_eq_getElem_cons (show k < m.reverse.length by simp; omega), Q9, a0b, if_pos (by omega)]
 · rw [drop_eq_nil_of_le (by simp; omega), drop_eq_nil_of_le (by simp; omega), Q9, a0b, if_neg (by omega), if_neg (by omega)]
 · have e1 : m.reverse.drop k = [] := drop_eq_nil_of_le (by simp; omega); rw [e1, drop_eq_getElem_cons (show k < l.reverse.length by simp; omega), Q9, a0b, if_neg (by omega), if_pos (by omega)]
theorem c5s (a b : Str) : a1p a b = if K9 a = true then (if K9 b = true then Q9 (E7 a).1.reverse (E7 b).1.reverse else -1) else (if K9 b = true then 1 else T5 a b) := by
 rw [a1p, a7i, a7i]; by_cases h1 : K9 a = true <;> by_cases h2 : K9 b = true <;> simp [h1, h2]
def CoI (l m : List G1) (R : Int) (k : Nat) (τ : St) : Prop := τ 9 = .d (.clo 165 [.ref (K7 l), .ref (K7 m)]) ∧ τ 5 = .d (.ref (K7 l)) ∧ τ 7 = .d (.ref (K7 m)) ∧ τ 45 = .d (.int .i64 (min l.length m.length : Nat)) ∧ τ 46 = .d (.int .i64 k) ∧ Q9 (l.reverse.drop k) (m.reverse.drop k) = R
theorem c7q (a b : Nat) : (if (b : Int) < a then (b : Int) else a) = ((min a b : Nat) : Int) := by
 split <;> omega
theorem b6W (a b : Str) (ha : length a < 900000) (hb : length b < 900000) : Ctr prog 119 [.d (.str a), .d (.str b)] (.d (.int .i64 (a1p a b))) := by
 refine fv (fun i => false) func119 (by kernel_rfl) rfl rfl rfl rfl rfl ?_; have c1 := a3j a ha; have c2 := a3j b hb; have c3 := a7U a b; have f1 := (a1n a).1; have f2 := (a1n b).1; rw [c5s]; generalize (E7 a).1 = l at *; generalize (E7 b).1 = m at *; simp only [K7] at c1 c2; by_cases h1 : K9 a = true
 · by_cases h2 : K9 b = true
   · rw [if_pos h1, if_pos h2]; obtain ⟨R, hR⟩ : ∃ R, Q9 l.reverse m.reverse = R := ⟨_, rfl⟩; rw [hR]; simp -implicitDefEqProofs; refine A3 c1 ?_; simp -implicitDefEqProofs; refine A3 c2 ?_; simp -implicitDefEqProofs [h1, h2, c7q]; refine H4 (min l.length m.length) (CoI l m R) ⟨by simp [K7], by simp [K7], by simp [K7], by simp; split <;> omega, by simp, by simpa using hR⟩ ?_; rintro k τ hk ⟨g9, g5, g7, g45, g46, hI⟩; by_cases hlt : k < min l.length m.length
     · have hk1 : k < l.length := (by omega); have hk2 : k < m.length := (by omega); have hlt' : (k : Int) < ((min l.length m.length : Nat) : Int) := (by omega); have c4 := c0h l m k hk1 hk2 f1 f2; rw [c1L hk1 hk2] at hI; simp only [K7] at c4; generalize a0w (l[l.length - 1 - k]'(by omega)) (m[m.length - 1 - k]'(by omega)) = C at *; generalize hmn : min l.length m.length = N at *; by_cases h0 : C = 0
       · rw [if_pos h0] at hI; subst h0; simp -implicitDefEqProofs [g9, g5, g7, g45, g46, hlt']; refine A3 c4 ?_; simp -implicitDefEqProofs [g9, g5, g7, g45, g46, hlt']; (repeat refine ai (by omega) ?_); exact F0 hlt ⟨by simp [g9, K7], by simp [g5, K7], by simp [g7, K7], by simp [g45, hmn], by simp, hI⟩
       · rw [if_neg h0] at hI; rw [hI] at c4 h0; simp -implicitDefEqProofs [g9, g5, g7, g45, g46, hlt']; refine A3 c4 ?_; simp -implicitDefEqProofs [g9, g5, g7, g45, g46, hlt', h0]
     · have hke : k = min l.length m.length := (by omega); have hlt' : ¬ (k : Int) < ((min l.length m.length : Nat) : Int) := (by omega); have c4 := a9P l.length m.length; rw [c3n hke] at hI; rw [hI] at c4; generalize min l.length m.length = N at *; simp -implicitDefEqProofs [g9, g5, g7, g45, g46, hlt', K7]; refine A3 c4 ?_; simp -implicitDefEqProofs [g9, g5, g7, g45, g46]
   · simp -implicitDefEqProofs; refine A3 c1 ?_; simp -implicitDefEqProofs; refine A3 c2 ?_; simp -implicitDefEqProofs [h1, h2]
 · by_cases h2 : K9 b = true
   · simp -implicitDefEqProofs; refine A3 c1 ?_; simp -implicitDefEqProofs; refine A3 c2 ?_; simp -implicitDefEqProofs [h1, h2]
   · simp -implicitDefEqProofs; refine A3 c1 ?_; simp -implicitDefEqProofs; refine A3 c2 ?_; simp -implicitDefEqProofs [h1, h2]; refine A3 c3 ?_; simp -implicitDefEqProofs
abbrev VK := Str × Str
abbrev idC (c : Chg) : Str := c.2.2.1
abbrev opC (c : Chg) : Int := c.2.1
abbrev nmC (c : Chg) : Str := c.2.2.2.1
abbrev a0C (c : Chg) : VK := c.2.2.2.2
structure Abt where
 cr : Bool
 rm : Bool
 nm : Chg
 vs : List (VK × Chg)
def S3 : Abt := ⟨false, false, M6, []⟩
def ltM (a b : Chg) : Bool := decide (orI [X2 a.1 b.1, a0H (H9 a).1 (H9 b).1] < 0)
def O6 (a b : Chg) : Chg := if opC a = 0 ∨ (opC b ≠ 0 ∧ ltM a b = true) then b else a
def a1c (vs : List (VK × Chg)) (k : VK) : Option Chg := (vs.find? fun p => decide (p.1 = k)).map (·.2)
def a0Y (vs : List (VK × Chg)) (k : VK) : Chg := (a1c vs k).getD M6
def a4j (vs : List (VK × Chg)) (k : VK) (c : Chg) : List (VK × Chg) := if vs.any (fun p => decide (p.1 = k)) then vs.map (fun p => if p.1 = k then (p.1, c) else p) else vs ++ [(k, c)]
def O9 (a : Abt) (c : Chg) : Abt :=
 if opC c = 1 then { a with cr := true, nm := O6 a.nm c }
 else if opC c = 3 then { a with nm := O6 a.nm c }
 else if opC c = 2 then { a with rm := true }
 else { a with vs := a4j a.vs (a0C c) (O6 (a0Y a.vs (a0C c)) c) }
abbrev a4k := List (Str × Abt)
def Z1 (A : a4k) (id : Str) : Option Abt := (A.find? fun p => decide (p.1 = id)).map (·.2)
def a4P (A : a4k) (c : Chg) : a4k := if A.any (fun p => decide (p.1 = idC c)) then A.map (fun p => if p.1 = idC c then (p.1, O9 p.2 c) else p) else A ++ [(idC c, O9 S3 c)]
def N9 (R : List Chg) : a4k := R.foldl a4P []
theorem a5w (R : List Chg) (c : Chg) : N9 (R ++ [c]) = a4P (N9 R) c := by simp [N9]
theorem b3W {A : a4k} {id : Str} : Z1 A id = none ↔ ∀ p ∈ A, p.1 ≠ id := by
 simp [Z1, find?_eq_none]
theorem c2t {A : a4k} {id : Str} {a : Abt} (hn : (A.map (·.1)).Nodup) : Z1 A id = some a ↔ (id, a) ∈ A := by
 induction A with
 | nil => simp [Z1]
 | cons p A ih =>
   rw [map_cons, nodup_cons] at hn; by_cases h : p.1 = id
   · have : Z1 (p :: A) id = some p.2 := (by simp [Z1, h]); rw [this]; constructor
     · intro e; simp only [Option.some.injEq] at e; subst e; subst h; exact mem_cons.2 (.inl rfl)
     · intro e; rcases mem_cons.1 e with e | e
       · rw [← e]
       · exact absurd (mem_map.2 ⟨_, e, rfl⟩) (by rw [← h]; exact hn.1)
   · have : Z1 (p :: A) id = Z1 A id := (by simp [Z1, h]); rw [this, ih hn.2]; constructor
     · intro e; exact mem_cons_of_mem _ e
     · intro e; rcases mem_cons.1 e with e | e
       · exact absurd (by rw [← e]) h
       · exact e
theorem c2v (A : a4k) (c : Chg) : (a4P A c).map (·.1) = if A.any (fun p => decide (p.1 = idC c)) then A.map (·.1) else A.map (·.1) ++ [idC c] := by
 unfold a4P; split
 · rw [map_map]; refine map_congr_left fun p _ => ?_
   simp only [Function.comp_apply]; split <;> rfl
 · simp
theorem b8K {A : a4k} (hn : (A.map (·.1)).Nodup) (c : Chg) : ((a4P A c).map (·.1)).Nodup := by
 rw [c2v]; split
 · exact hn
 · rename_i h
   refine nodup_append.2 ⟨hn, by simp, fun x hx z hz => ?_⟩; simp only [mem_singleton] at hz; subst hz; rintro rfl; obtain ⟨p, hp, e⟩ := mem_map.1 hx; exact h (any_eq_true.2 ⟨p, hp, by simpa using e⟩)
theorem a4m (R : List Chg) : ((N9 R).map (·.1)).Nodup := by
 have : ∀ (R : List Chg) (A : a4k), (A.map (·.1)).Nodup → ((R.foldl a4P A).map (·.1)).Nodup := by
   intro R
   induction R with
   | nil => intro A h; exact h
   | cons c R ih => intro A h; exact ih _ (b8K h c)
 exact this R [] (by simp)
def abF (R : List Chg) (id : Str) : Abt := (R.filter fun c => decide (idC c = id)).foldl O9 S3
theorem a0T (R : List Chg) (c : Chg) (id : Str) : abF (R ++ [c]) id = if idC c = id then O9 (abF R id) c else abF R id := by
 unfold abF; by_cases h : idC c = id <;> simp [h]
theorem V0 {α : Type} {P : List α → Prop} (h0 : P []) (h1 : ∀ l a, P l → P (l ++ [a])) (l : List α) : P l := by
 have : ∀ l : List α, P l.reverse := fun l => by
   induction l with
   | nil => exact h0
   | cons a l ih => rw [reverse_cons]; exact h1 _ _ ih
 simpa using this l.reverse
theorem b5T (k : Str) (f : Abt → Abt) (id : Str) : ∀ A : a4k, Z1 (A.map fun p => if p.1 = k then (p.1, f p.2) else p) id = if k = id then (Z1 A id).map f else Z1 A id
 | [] => by simp [Z1]
 | p :: A => by
   have ih := b5T k f id A; unfold Z1 at ih ⊢; rw [map_cons]; by_cases h1 : p.1 = k <;> by_cases h2 : p.1 = id
   · have : k = id := h1.symm.trans h2; simp [h1, h2, this]
   · have : ¬ k = id := fun e => h2 (h1.trans e)
     rw [if_neg this] at ih ⊢; simp [h1, h2, this]; simpa [h1] using ih
   · have : ¬ k = id := fun e => h1 (h2.trans e.symm)
     rw [if_neg h1, find?_cons_of_pos (by simpa using h2), find?_cons_of_pos (by simpa using h2), if_neg this]
   · rw [if_neg h1, find?_cons_of_neg (by simpa using h2), find?_cons_of_neg (by simpa using h2)]; exact ih
theorem c0k {A : a4k} (c : Chg) (id : Str) : Z1 (a4P A c) id = if idC c = id then some (O9 ((Z1 A id).getD S3) c) else Z1 A id := by
 unfold a4P; by_cases ha : A.any (fun p => decide (p.1 = idC c)) = true
 · rw [if_pos ha, b5T (idC c) (fun a => O9 a c) id A]; by_cases h : idC c = id
   · rw [if_pos h, if_pos h]; obtain ⟨p, hp, e⟩ := any_eq_true.1 ha; cases hg : Z1 A id with
     | none => exact absurd ((by simpa using e : p.1 = idC c).trans h) (b3W.1 hg p hp)
     | some a => rfl
   · rw [if_neg h, if_neg h]
 · rw [if_neg ha]; have hn : Z1 A (idC c) = none := b3W.2 fun p hp e => ha (any_eq_true.2 ⟨p, hp, by simpa using e⟩)
   by_cases h : idC c = id
   · rw [if_pos h]; rw [h] at hn; rw [hn]; unfold Z1 at hn ⊢; rw [find?_append]; cases hf : find? (fun p => decide (p.1 = id)) A with
     | some x => rw [hf] at hn; simp at hn
     | none => simp [h]
   · rw [if_neg h]; unfold Z1; rw [find?_append]; cases hf : find? (fun p => decide (p.1 = id)) A with
     | some x => simp
     | none => simp [h]
theorem c4f {R : List Chg} {id : Str} (h : R.any (fun c => decide (idC c = id)) = false) : abF R id = S3 := by
 have : R.filter (fun c => decide (idC c = id)) = [] := by
   rw [filter_eq_nil_iff]; intro c hc; have := any_eq_false.1 h c hc; exact this
 simp [abF, this]
theorem c4J (R : List Chg) (id : Str) : Z1 (N9 R) id = if R.any (fun c => decide (idC c = id)) then some (abF R id) else none := by
 refine V0 (P := fun R => Z1 (N9 R) id = if R.any (fun c => decide (idC c = id)) then some (abF R id) else none) rfl (fun R c ih => ?_) R; rw [a5w, c0k, ih, a0T, any_append]; by_cases h : idC c = id
 · rw [if_pos h, if_pos h]; cases ha : R.any (fun c => decide (idC c = id)) with
   | true => simp
   | false => simp [h, c4f ha]
 · simp only [h, if_false, any_cons, any_nil, decide_false, Bool.or_false]
theorem a3k {R : List Chg} {id : Str} {a : Abt} : (id, a) ∈ N9 R ↔ (∃ c ∈ R, idC c = id) ∧ a = abF R id := by
 rw [← c2t (a4m R), c4J]; by_cases h : R.any (fun c => decide (idC c = id)) = true
 · rw [if_pos h]; have h2 : ∃ c ∈ R, idC c = id := by
     obtain ⟨c, hc, e⟩ := any_eq_true.1 h; exact ⟨c, hc, by simpa using e⟩
   simp only [Option.some.injEq, h2, true_and]; exact eq_comm
 · rw [if_neg h]; simp only [reduceCtorEq, false_iff, not_and]; rintro ⟨c, hc, e⟩; exact absurd (any_eq_true.2 ⟨c, hc, by simpa using e⟩) h
def vkD (k : VK) : D := .agg [.str k.1, .str k.2]
def M9 (a : Abt) (x : D) : D := .agg [.bool a.cr, .bool a.rm, A7 a.nm, x]
abbrev Q3 := Str × Abt × Nat × Nat
def vsM (vs : List (VK × Chg)) : List (D × D) := vs.map fun p => (vkD p.1, A7 p.2)
def P6 (R : List Chg) : List (D × D) := R.map fun c => (A7 c, D.bool true)
def P0 (L : List Q3) : List (D × D) := L.map fun e => (D.str e.1, D.raw (va e.2.2.1))
def a1r (e : Q3) : List AV := [.hb (va e.2.2.1) 78 (M9 e.2.1 (.raw (.map (some e.2.2.2)))), .hm (.map (some e.2.2.2)) 101 (vsM e.2.1.vs) none]
def R8 (s r m : Nat) (R : List Chg) (L : List Q3) : List AV :=
 [.hb (va s) 65 (.agg [.raw (.map (some r)), .raw (.map (some m))]), .hm (.map (some r)) 35 (P6 R) none, .hm (.map (some m)) 9 (P0 L) none]
def stH (s r m : Nat) (R : List Chg) (L : List Q3) : List AV := R8 s r m R L ++ L.flatMap a1r
def U5 (L : List Q3) : a4k := L.map fun e => (e.1, e.2.1)
def AbD (a : Abt) (d : D) : Prop := ∃ u V bs clk, d = .ref (M9 a (.map u (V.map fun p => vkD p.1) (V.map fun p => A7 p.2) bs clk)) ∧ Perm V a.vs
def StD (R : List Chg) (d : D) : Prop := ∃ u1 R1 bs1 c1 u2 bs2 c2, ∃ M : List (Str × Abt × D), d = .ref (.agg [.map u1 (R1.map A7) (R1.map fun _ => .bool true) bs1 c1, .map u2 (M.map fun x => .str x.1) (M.map fun x => x.2.2) bs2 c2]) ∧
 Perm R1 R ∧ Perm (M.map fun x => (x.1, x.2.1)) (N9 R) ∧ ∀ x ∈ M, AbD x.2.1 x.2.2
theorem a1I {α β : Type} {f : α → β} {m x : List β} (h : Perm m x) : ∀ {l : List α}, x = l.map f → ∃ V, Perm V l ∧ V.map f = m := by
 induction h with
 | nil => intro l e; cases l <;> simp at e; exact ⟨[], .nil, rfl⟩
 | cons a _ ih =>
   intro l e; cases l with
   | nil => simp at e
   | cons y l =>
     simp only [map_cons, List.cons.injEq] at e; obtain ⟨rfl, e⟩ := e; obtain ⟨V, h1, h2⟩ := ih e; exact ⟨y :: V, h1.cons y, by simp [h2]⟩
 | swap a b l2 =>
   intro l e; cases l with
   | nil => simp at e
   | cons y l =>
     cases l with
     | nil => simp at e
     | cons z l =>
       simp only [map_cons, List.cons.injEq] at e; obtain ⟨rfl, rfl, rfl⟩ := e; exact ⟨z :: y :: l, Perm.swap y z l, by simp⟩
 | trans _ _ ih1 ih2 =>
   intro l e; obtain ⟨V, h1, h2⟩ := ih2 e; obtain ⟨V', h3, h4⟩ := ih1 h2.symm; exact ⟨V', h3.trans h1, h4⟩
theorem a4I {P : Program} {w : World} {L : Nat → Nat → Prop} {hs : List AV} : ∀ ds : List D, LnL P w L hs ds ds
 | [] => .nil
 | d :: ds => .cons (.same d) (a4I ds)
theorem c7c {w : World} {L : Nat → Nat → Prop} {hs : List AV} (hr : ∀ x ∈ hs, RH prog w L x) {e : Q3} (he : ∀ x ∈ a1r e, x ∈ hs) : ∃ d, AbD e.2.1 d ∧ Ln prog w L hs (.raw (va e.2.2.1)) d := by
 have h1 := he (.hm (.map (some e.2.2.2)) 101 (vsM e.2.1.vs) none) (by simp [a1r]); have h2 := he (.hb (va e.2.2.1) 78 (M9 e.2.1 (.raw (.map (some e.2.2.2))))) (by simp [a1r]); obtain ⟨g, m', es, clk, k1, k2, k3, k4, k5, k6, _⟩ : a0d prog w L _ 101 (vsM e.2.1.vs) none (.map (some e.2.2.2)) := (hr _ h1).2; simp only [Value.map.injEq, Option.some.injEq] at k2; subst k2; obtain ⟨V, v1, v2⟩ := a1I k5 rfl; refine ⟨_, ⟨.map (some e.2.2.2), V, es.toList.map (·.born), clk, rfl, v1⟩, .box h2 ?_⟩; refine .agg (.cons (.same _) (.cons (.same _) (.cons (.same _) (.cons ?_ .nil)))); have := Ln.map (P := prog) h1 k3 k6 k5 (a4I _); rw [← v2] at this; simpa [Function.comp_def] using this
theorem b7T {w : World} {L : Nat → Nat → Prop} {hs : List AV} (hr : ∀ x ∈ hs, RH prog w L x) : ∀ {E : List Q3}, (∀ e ∈ E, ∀ x ∈ a1r e, x ∈ hs) →
   ∃ M : List (Str × Abt × D), (M.map fun x => (x.1, x.2.1)) = U5 E ∧ (M.map fun x => D.str x.1) = E.map (fun e => D.str e.1) ∧ LnL prog w L hs (E.map fun e => .raw (va e.2.2.1)) (M.map fun x => x.2.2) ∧ ∀ x ∈ M, AbD x.2.1 x.2.2
 | [], _ => ⟨[], rfl, rfl, .nil, by simp⟩
 | e :: E, he => by
   obtain ⟨M, m1, m2, m3, m4⟩ := b7T hr (E := E) (fun e' h' => he e' (by simp [h'])); obtain ⟨d, d1, d2⟩ := c7c hr (he e (by simp)); refine ⟨(e.1, e.2.1, d) :: M, by simp [U5] at m1 ⊢; exact m1, by simp at m2 ⊢; exact m2, .cons d2 m3, fun x hx => ?_⟩; rcases mem_cons.1 hx with rfl | hx
   · exact d1
   · exact m4 x hx
theorem a6O {w : World} {L : Nat → Nat → Prop} {hs : List AV} (hr : ∀ x ∈ hs, RH prog w L x) {s r m : Nat} {R : List Chg} {E : List Q3} (hE : U5 E = N9 R) (hh : ∀ x ∈ stH s r m R E, x ∈ hs) :
   ∃ d, StD R d ∧ Ln prog w L hs (.raw (va s)) d := by
 have h0 := hh (.hb (va s) 65 (.agg [.raw (.map (some r)), .raw (.map (some m))])) (by simp [stH, R8]); have h1 := hh (.hm (.map (some r)) 35 (P6 R) none) (by simp [stH, R8]); have h2 := hh (.hm (.map (some m)) 9 (P0 E) none) (by simp [stH, R8]); obtain ⟨g, m1, es1, c1, k1, k2, k3, k4, k5, k6, _⟩ : a0d prog w L _ 35 (P6 R) none (.map (some r)) := (hr _ h1).2; simp only [Value.map.injEq, Option.some.injEq] at k2; subst k2; obtain ⟨g, m2, es2, c2, q1, q2, q3, q4, q5, q6, _⟩ : a0d prog w L _ 9 (P0 E) none (.map (some m)) := (hr _ h2).2; simp only [Value.map.injEq, Option.some.injEq] at q2; subst q2; obtain ⟨R1, r1, r2⟩ := a1I k5 rfl; obtain ⟨E1, e1, e2⟩ := a1I q5 rfl; obtain ⟨M, n1, n2, n3, n4⟩ := b7T hr (E := E1) (fun e he x hx => hh x (by
   simp only [stH, mem_append, mem_flatMap]; exact .inr ⟨e, e1.mem_iff.1 he, hx⟩))
 refine ⟨_, ⟨.map (some r), R1, es1.toList.map (·.born), c1, .map (some m), es2.toList.map (·.born), c2, M, rfl, r1, ?_, n4⟩, .box h0 (.agg (.cons ?_ (.cons ?_ .nil)))⟩
 · rw [n1, ← hE]; exact e1.map _
 · have := Ln.map (P := prog) h1 k3 k6 k5 (a4I _); rw [← r2] at this; simpa [Function.comp_def] using this
 · have h3 : m2.map (·.2) = E1.map fun e => .raw (va e.2.2.1) := by rw [← e2]; simp [P0, Function.comp_def]
   have := Ln.map (P := prog) h2 q3 q6 q5 (by rw [h3]; exact n3); have h4 : m2.map (·.1) = M.map fun x => D.str x.1 := by rw [n2, ← e2]; simp [P0, Function.comp_def]
   rw [h4] at this; exact this
end Go.Proofs.Tz
namespace Go.Proofs.Tz
open Go.Vw
theorem b7S (H : List AV) : ∀ rs : List Row, (∀ r ∈ rs, hnd r ∈ H) → FzL H (rs.map a1D) ((rs.map nv).map att)
 | [], _ => .nil
 | r :: rs, h => .cons (.agg (.cons (.same _) (.cons (.sl (h r (by simp))) .nil))) (b7S H rs fun x hx => h x (by simp [hx]))
theorem c1A (l : List Att) (hl : a5R l) : Ctr prog 100 [.d (G5 l)] (.own true 72 ((G2 l).map att)) := by
 refine (b9D l hl).frozen (by simp) ?_; rintro r hs ⟨rs, rfl, rfl, hp, ha⟩; refine ⟨_, rfl, ?_⟩; have := b4i l (rs.map nv) hp (fun i j hij hj => by
   have := ha i j hij (by simpa using hj); simpa [nv] using this)
 rw [← this]; exact b7S _ rs fun r hr => mem_map.2 ⟨r, hr, rfl⟩
theorem c2c (a b : List Att) (ha : a5R a) (hb : a5R b) (ha' : b3a (G2 a)) (hb' : b3a (G2 b)) : Ctr prog 26 [.d (G5 a), .d (G5 b)] (.d (.bool (decide (G2 a = G2 b)))) := by
 refine fv (fun _ => false) func26 (by kernel_rfl) rfl rfl rfl rfl rfl ?_; simp -implicitDefEqProofs; refine A3 (b1t a ha) ?_; simp -implicitDefEqProofs; refine A3 (b1t b hb) ?_; simp -implicitDefEqProofs; refine A3 (c3v _ _ ha' hb') ?_; simp -implicitDefEqProofs
theorem c1h (g : FuncId) (cs : List D) (hcs : (cs.all fun c => !c.isAgg) = true) (p : Str → Bool) (l : List Str) (hl : l.length < 1000000) (hp : ∀ a ∈ l, Ctr prog g ([.d (.str a)] ++ cs.map .d) (.d (.bool (p a)))) :
   Ctr prog 115 [.d (C7 l), .d (.clo g cs)] (.d (.int .i64 (a3e p 0 l))) := by
 refine fv (fun _ => false) func115 (by kernel_rfl) rfl rfl rfl rfl rfl ?_; simp -implicitDefEqProofs [C7]; refine H4 l.length (fun k τ => τ 0 = .d (C7 l) ∧ τ 1 = .d (.clo g cs) ∧ τ 7 = .d (.int .i64 l.length) ∧ τ 8 = .d (.int .i64 k) ∧ a3e p 0 l = a3e p k (l.drop k)) (by simp [C7]) ?_; rintro k τ hk ⟨h0, h1, h7, h8, hi⟩; by_cases hlt : k < l.length
 · rw [c1d hlt] at hi; have hf := hp _ (gmm hlt); simp only [cons_append, nil_append] at hf; simp -implicitDefEqProofs [h0, h1, h7, h8, C7, hlt]; refine ⟨by simpa using hcs, A3 hf ?_⟩; by_cases he : p l[k] = true
   · simp -implicitDefEqProofs [h0, h1, h7, h8, C7, hlt, he]; rw [hi, if_pos he]
   · simp -implicitDefEqProofs [h0, h1, h7, h8, C7, hlt, he]; refine ⟨by omega, F0 hlt ⟨by simp [h0, C7], by simp [h1], by simp [h7], by simp, ?_⟩⟩; rw [hi, if_neg he]
 · simp -implicitDefEqProofs [h0, h1, h7, h8, C7, hlt]; rw [hi, drop_eq_nil_of_le (by omega)]; simp -implicitDefEqProofs [a3e]
theorem b6E {α : Type} (p : α → Bool) : ∀ (l : List α) (k : Nat), a3e p k l = -1 → l.filter (fun x => !p x) = l
 | [], k, _ => rfl
 | x :: l, k, h => by
   rw [a3e] at h; by_cases hx : p x = true
   · rw [if_pos hx] at h; omega
   · rw [if_neg hx] at h; simp -implicitDefEqProofs [hx, b6E p l (k + 1) h]
theorem b6F {α : Type} (p : α → Bool) : ∀ (l : List α) (k : Nat), a3e p k l ≠ -1 → ∃ i : Nat, a3e p k l = ((k + i : Nat) : Int) ∧ i < l.length ∧ (l.take i).filter (fun x => !p x) = l.take i ∧ (l.take (i + 1)).filter (fun x => !p x) = l.take i
 | [], k, h => absurd rfl h
 | x :: l, k, h => by
   rw [a3e] at h ⊢; by_cases hx : p x = true
   · rw [if_pos hx]; exact ⟨0, by simp, by simp, by simp, by simp [hx]⟩
   · rw [if_neg hx] at h ⊢; obtain ⟨i, h1, h2, h3, h4⟩ := b6F p l (k + 1) h; refine ⟨i + 1, by rw [h1]; omega, by simpa using h2, ?_, ?_⟩
     · simp -implicitDefEqProofs [hx, h3]
     · rw [take_succ_cons, filter_cons, if_pos (by simp [hx]), h4, take_succ_cons]
end Go.Proofs.Tz
namespace Go.Proofs.Tz
open Go.Vw Go.Lib
theorem b7l (l : List Att) : (G2 l).Perm (((grp l).filter a4h).map a2p) := by
 have hp : ((((grp l).filter a4h).map a2p).mergeSort fun a b => decide (a.1 ≤ b.1)).Perm (((grp l).filter a4h).map a2p) := mergeSort_perm _ _; have hs := pairwise_mergeSort (le := fun a b : Att => decide (a.1 ≤ b.1)) (fun a b c h1 h2 => by
   simp only [decide_eq_true_eq] at *; exact List.le_trans h1 h2) (fun a b => by
   simp only [Bool.or_eq_true, decide_eq_true_eq]; exact List.le_total a.1 b.1) (((grp l).filter a4h).map a2p)
 rw [← b4i l _ hp (fun i j hij hj => by
   have := pairwise_iff_getElem.1 hs i j (by omega) hj hij; rw [b3r]; simpa using this)]
 exact hp
theorem b6X (l : List Str) : (compact l).length ≤ l.length := by
 have key : ∀ m, (compactUpTo l.toArray m).length ≤ m := by
   intro m
   induction m with
   | zero => simp [compactUpTo]
   | succ m ih =>
     rw [compactUpTo_succ]; split <;> simp <;> omega
 exact key l.length
theorem b9i {a b : List Att} (h : a.Perm b) : I0 a = I0 b := (h.map _).sum_nat
theorem b9S (l : List Att) : I0 ((l.filter a4h).map a2p) ≤ I0 l := by
 induction l with
 | nil => simp [I0]
 | cons a l ih =>
   have hc := b6X (I5 a.2); have hs : (I5 a.2).length = a.2.length := (by simp [I5]); rw [filter_cons]; split
   · simp only [map_cons, I0, sum_cons] at ih ⊢; simp only [a2p]; omega
   · simp only [I0, map_cons, sum_cons] at ih ⊢; omega
theorem a8k (l : List Att) : I0 (G2 l) ≤ I0 l := by
 rw [b9i (b7l l), ← a8O l]; exact b9S _
theorem b0j {l : List Att} {x : Att} (h : x ∈ G2 l) : ∃ a ∈ l, a.2 ≠ [] ∧ D7 a.1 = x.1 := by
 obtain ⟨n, hn, rfl⟩ := mem_map.1 h; have hN := (a1j l [] (by simp [SS])).2 n; rw [show l.foldl Z6 [] = X5 l from rfl] at hN; rcases hN.1 hn with h | h
 · simp at h
 · exact h
theorem b9I {l : List Att} {x : Att} (h : x ∈ G2 l) {v : Str} (hv : v ∈ x.2) : ∃ a ∈ l, D7 a.1 = x.1 ∧ v ∈ a.2 := by
 obtain ⟨n, hn, rfl⟩ := mem_map.1 h; have hV := (a0S n l [] (by simp [SS])).2 v; rw [show l.foldl (a0W n) [] = a0A l n from rfl] at hV; rcases hV.1 hv with h | h
 · simp at h
 · exact h
theorem b6R {l : List Att} (hl : a5R l) : a5R (G2 l) := by
 refine ⟨⟨Nat.lt_of_le_of_lt (b8z l) hl.1.1, fun x hx => ⟨?_, ?_⟩⟩, Nat.lt_of_le_of_lt (a8k l) hl.2⟩
 · obtain ⟨a, ha, _, e⟩ := b0j hx; rw [← e, T8]; exact (hl.1.2 a ha).1
 · have h1 := a8o hx; have h2 := a8k l; have h3 := hl.2; omega
def b3e (l : List Att) (n v : Str) : Prop := ∃ a ∈ l, D7 a.1 = n ∧ v ∈ a.2
structure NF (s : List Att) : Prop where
 names : SS (s.map (·.1))
 vals : ∀ x ∈ s, SS x.2
 ne : ∀ x ∈ s, x.2 ≠ []
theorem c0Q (c : UInt8) : a1B (a1B c) = a1B c := by
 unfold a1B; by_cases h : 65 ≤ (c.toNat : Int) ∧ (c.toNat : Int) ≤ 90
 · rw [if_pos h, if_neg]; rw [UInt8.toNat_add]; have : (32 : UInt8).toNat = 32 := rfl; omega
 · rw [if_neg h, if_neg h]
theorem b7a (s : Str) : D7 (D7 s) = D7 s := by simp [D7, c0Q]
theorem b4w (l : List Att) : NF (G2 l) := by
 have hN := a1j l [] (by simp [SS]); refine ⟨?_, fun x hx => ?_, fun x hx => ?_⟩
 · rw [G2, map_map]; rw [show ((fun x : Att => x.1) ∘ fun n => (n, a0A l n)) = id from rfl, map_id]; exact hN.1
 · obtain ⟨n, _, rfl⟩ := mem_map.1 hx; exact (a0S n l [] (by simp [SS])).1
 · obtain ⟨n, hn, rfl⟩ := mem_map.1 hx; have hV := (a0S n l [] (by simp [SS])).2; rcases (hN.2 n).1 hn with h | ⟨a, ha, hne, e⟩
   · simp at h
   · obtain ⟨v, hv⟩ := exists_mem_of_ne_nil _ hne; exact ne_nil_of_mem ((hV v).2 (.inr ⟨a, ha, e, hv⟩))
theorem a7H (l : List Att) (n v : Str) : Has (G2 l) n v ↔ b3e l n v := by
 have hN := a1j l [] (by simp [SS]); constructor
 · rintro ⟨x, hx, rfl, hv⟩; obtain ⟨a, ha, e, h⟩ := b9I hx hv; exact ⟨a, ha, e, h⟩
 · rintro ⟨a, ha, e, hv⟩; refine ⟨(n, a0A l n), mem_map.2 ⟨n, ?_, rfl⟩, rfl, ?_⟩
   · exact (hN.2 n).2 (.inr ⟨a, ha, ne_nil_of_mem hv, e⟩)
   · exact ((a0S n l [] (by simp [SS])).2 v).2 (.inr ⟨a, ha, e, hv⟩)
theorem a9g {α : Type} {l : List α} (h : l.Nodup) {i j : Nat} (hi : i < l.length) (hj : j < l.length) (e : l[i] = l[j]) : i = j := by
 have h1 := pairwise_iff_getElem.1 h; rcases Nat.lt_trichotomy i j with h2 | h2 | h2
 · exact absurd e (h1 i j hi hj h2)
 · exact h2
 · exact absurd e.symm (h1 j i hj hi h2)
theorem c1F {s : List Att} (hs : NF s) {x y : Att} (hx : x ∈ s) (hy : y ∈ s) (h : x.1 = y.1) : x = y := by
 have hnd := hs.names.nodup; obtain ⟨i, hi, rfl⟩ := mem_iff_getElem.1 hx; obtain ⟨j, hj, rfl⟩ := mem_iff_getElem.1 hy; have := a9g hnd (i := i) (j := j) (by simpa using hi) (by simpa using hj) (by simpa using h); subst this; rfl
theorem c8a {s t : List Att} (hs : NF s) (ht : NF t) (h : ∀ n v, Has s n v ↔ Has t n v) : s = t := by
 have e1 : s.map (·.1) = t.map (·.1) := by
   refine a9k hs.names ht.names fun n => ?_
   constructor
   · intro hn; obtain ⟨x, hx, rfl⟩ := mem_map.1 hn; obtain ⟨v, hv⟩ := exists_mem_of_ne_nil _ (hs.ne x hx); obtain ⟨y, hy, e, _⟩ := (h x.1 v).1 ⟨x, hx, rfl, hv⟩; exact mem_map.2 ⟨y, hy, e⟩
   · intro hn; obtain ⟨x, hx, rfl⟩ := mem_map.1 hn; obtain ⟨v, hv⟩ := exists_mem_of_ne_nil _ (ht.ne x hx); obtain ⟨y, hy, e, _⟩ := (h x.1 v).2 ⟨x, hx, rfl, hv⟩; exact mem_map.2 ⟨y, hy, e⟩
 have hl : s.length = t.length := by simpa using congrArg length e1
 refine ext_getElem hl fun i h1 h2 => ?_
 have en : s[i].1 = t[i].1 := by
   have := getElem_of_eq e1 (i := i) (by simpa using h1); simpa using this
 refine Prod.ext en ?_; refine a9k (hs.vals _ (gmm h1)) (ht.vals _ (gmm h2)) fun v => ?_
 constructor
 · intro hv; obtain ⟨y, hy, e, hv⟩ := (h s[i].1 v).1 ⟨_, gmm h1, rfl, hv⟩; rw [← c1F ht hy (gmm h2) (e.trans en)]; exact hv
 · intro hv; obtain ⟨y, hy, e, hv⟩ := (h t[i].1 v).2 ⟨_, gmm h2, rfl, hv⟩; rw [← c1F hs hy (gmm h1) (e.trans en.symm)]; exact hv
theorem b1I {a b : List Att} (h : ∀ n v, b3e a n v ↔ b3e b n v) : G2 a = G2 b :=
 c8a (b4w a) (b4w b) fun n v => by rw [a7H, a7H, h]
theorem b1P {l : List Att} {x : Att} (h : x ∈ G2 l) : D7 x.1 = x.1 := by
 obtain ⟨a, _, _, e⟩ := b0j h; rw [← e, b7a]
theorem b7u (l : List Att) (n v : Str) : b3e (G2 l) n v ↔ b3e l n v := by
 rw [← a7H l n v]; constructor
 · rintro ⟨x, hx, e, hv⟩; exact ⟨x, hx, (b1P hx).symm.trans e, hv⟩
 · rintro ⟨x, hx, e, hv⟩; exact ⟨x, hx, (b1P hx).trans e, hv⟩
theorem b6P (l : List Att) : G2 (G2 l) = G2 l := b1I (b7u l)
end Go.Proofs.Tz
namespace Go.Proofs.Tz
open Go.Vw Go.RowKit Go.Proofs Go.Sort
structure a1e (K ss : List Str) (seen : List D) : Prop where
 eq : seen = ss.map .str
 nd : ss.Nodup
 sub : ∀ s ∈ ss, s ∈ K
theorem a1e.nil (K : List Str) : a1e K [] [] := ⟨rfl, nodup_nil, by simp⟩
theorem a1e.mem {K ss : List Str} {seen : List D} (h : a1e K ss seen) {s : Str} : D.str s ∈ seen ↔ s ∈ ss := by
 rw [h.eq]; simp
theorem a1e.next {K ss : List Str} {seen : List D} (h : a1e K ss seen) {s : Str} (hs : s ∈ K) (hn : D.str s ∉ seen) : a1e K (ss ++ [s]) (seen ++ [.str s]) := by
 rw [h.mem] at hn; refine ⟨by rw [h.eq]; simp, ?_, ?_⟩
 · rw [nodup_append]; refine ⟨h.nd, by simp, ?_⟩; intro a ha b hb; simp only [mem_singleton] at hb; subst hb; rintro rfl; exact hn ha
 · intro x hx; rcases mem_append.1 hx with hx | hx
   · exact h.sub x hx
   · simp only [mem_singleton] at hx; subst hx; exact hs
theorem a1e.le {K ss : List Str} {seen : List D} (h : a1e K ss seen) (hK : K.Nodup) : ss.length ≤ K.length := by
 have hp : ss.Perm (K.filter fun s => decide (s ∈ ss)) := (perm_ext_iff_of_nodup h.nd (hK.filter _)).2 fun s => by
   simp only [mem_filter, decide_eq_true_eq]; exact ⟨fun hs => ⟨h.sub s hs, hs⟩, fun hs => hs.2⟩
 rw [hp.length_eq]; exact length_filter_le _ _
theorem a1e.lt {K ss : List Str} {seen : List D} (h : a1e K ss seen) (hK : K.Nodup) {s : Str} (hs : s ∈ K) (hn : D.str s ∉ seen) : ss.length < K.length := by
 have := (h.next hs hn).le hK; simp only [length_append, length_singleton] at this; omega
theorem a1e.all {K ss : List Str} {seen : List D} (h : a1e K ss seen) (hK : K.Nodup) (ha : ∀ s ∈ K, D.str s ∈ seen) : ss.Perm K :=
 (perm_ext_iff_of_nodup h.nd hK).2 fun s => ⟨h.sub s, fun hs => h.mem.1 (ha s hs)⟩
theorem b7g {α : Type} (f : α → Bool) (l : List α) (x : α) : (l ++ [x]).filter f = l.filter f ++ (if f x = true then [x] else []) := by
 rw [filter_append]; by_cases h : f x = true <;> simp [h]
def a2g : D := .ref (.agg [.raw (.map none), .raw (.map none)])
abbrev Z5 := Str × Abt × D
def T9 (u1 : Value) (R1 : List Chg) (bs1 : List Nat) (c1 : Nat) (u2 : Value) (M : List Z5) (bs2 : List Nat) (c2 : Nat) : D :=
 .ref (.agg [.map u1 (R1.map A7) (R1.map fun _ => .bool true) bs1 c1, .map u2 (M.map fun x => .str x.1) (M.map fun x => x.2.2) bs2 c2])
structure MR (R : List Chg) (M : List Z5) : Prop where
 perm : Perm (M.map fun x => (x.1, x.2.1)) (N9 R)
 ab : ∀ x ∈ M, AbD x.2.1 x.2.2
theorem StD.open {R : List Chg} {d : D} (h : StD R d) : ∃ u1 R1 bs1 c1 u2 M bs2 c2, d = T9 u1 R1 bs1 c1 u2 M bs2 c2 ∧ Perm R1 R ∧ MR R M := by
 obtain ⟨u1, R1, bs1, c1, u2, bs2, c2, M, h1, h2, h3, h4⟩ := h; exact ⟨u1, R1, bs1, c1, u2, M, bs2, c2, h1, h2, h3, h4⟩
theorem MR.keys {R : List Chg} {M : List Z5} (h : MR R M) : Perm (M.map (·.1)) ((N9 R).map (·.1)) := by
 have := h.perm.map (·.1); simpa [Function.comp_def] using this
theorem MR.nodup {R : List Chg} {M : List Z5} (h : MR R M) : (M.map (·.1)).Nodup := h.keys.nodup_iff.2 (a4m R)
theorem MR.at_ {R : List Chg} {M : List Z5} (h : MR R M) {x : Z5} (hx : x ∈ M) : (∃ c ∈ R, idC c = x.1) ∧ x.2.1 = abF R x.1 := by
 have : (x.1, x.2.1) ∈ N9 R := h.perm.mem_iff.1 (mem_map.2 ⟨x, hx, rfl⟩); exact a3k.1 this
theorem MR.has {R : List Chg} {M : List Z5} (h : MR R M) {c : Chg} (hc : c ∈ R) : ∃ d, (idC c, abF R (idC c), d) ∈ M ∧ AbD (abF R (idC c)) d := by
 have : (idC c, abF R (idC c)) ∈ M.map fun x => (x.1, x.2.1) := h.perm.mem_iff.2 (a3k.2 ⟨⟨c, hc, rfl⟩, rfl⟩)
 obtain ⟨x, hx, e⟩ := mem_map.1 this; obtain ⟨i, a, d⟩ := x; simp only [Prod.mk.injEq] at e; obtain ⟨rfl, rfl⟩ := e; exact ⟨d, hx, h.ab _ hx⟩
def a8b (M : List Z5) : List (D × D) := M.map fun x => (D.str x.1, x.2.2)
theorem a3D (M : List Z5) : (M.map fun x => D.str x.1).zip (M.map fun x => x.2.2) = a8b M := by
 induction M with
 | nil => rfl
 | cons x M ih => simp only [map_cons, zip_cons_cons, ih, a8b]
theorem L5 (a b : Str) : G8 (.str a) (.str b) = decide (a = b) := rfl
theorem c0N {M : List Z5} (hn : (M.map (·.1)).Nodup) {id : Str} {a : Abt} {d : D} (h : (id, a, d) ∈ M) : M8 (a8b M) (.str id) = some d := by
 induction M with
 | nil => simp at h
 | cons x M ih =>
   rw [map_cons, nodup_cons] at hn; rcases mem_cons.1 h with rfl | h
   · simp [M8, a8b, L5]
   · have hne : ¬ x.1 = id := fun e => hn.1 (mem_map.2 ⟨_, h, e.symm⟩)
     have := ih hn.2 h; simp only [M8, a8b, map_cons, find?_cons, L5, decide_eq_false hne] at this ⊢; exact this
theorem a4a : Ctr prog 39 [.d .nilp] (.d (.bool false)) := by
 refine fv (fun _ => false) func39 (by kernel_rfl) rfl rfl rfl rfl rfl ?_; simp -implicitDefEqProofs
theorem a5L : Ctr prog 39 [.d a2g] (.d (.bool false)) := by
 refine fv (fun _ => false) func39 (by kernel_rfl) rfl rfl rfl rfl rfl ?_; simp -implicitDefEqProofs [a2g]
theorem a2u (u1 : Value) (R1 : List Chg) (bs1 : List Nat) (c1 : Nat) (u2 : Value) (M : List Z5) (bs2 : List Nat) (c2 : Nat) : Ctr prog 39 [.d (T9 u1 R1 bs1 c1 u2 M bs2 c2)] (.d (.bool true)) := by
 refine fv (fun _ => false) func39 (by kernel_rfl) rfl rfl rfl rfl rfl ?_; simp -implicitDefEqProofs [T9]
def a2W (a : Abt) : Bool := a.cr && !a.rm
def a3o (R : List Chg) : List Str := ((N9 R).filter fun p => a2W p.2).map (·.1)
def C0 (R : List Chg) : List Str := I5 (a3o R)
def a0n (M : List Z5) (s : Str) : Bool := M.any fun x => decide (x.1 = s) && a2W x.2.1
theorem b2m {l m : List Str} (h : l.Perm m) : I5 l = I5 m := by
 unfold I5; refine Perm.eq_of_pairwise (le := fun x y => decide (x ≤ y) = true) (fun a b _ _ x y => List.le_antisymm (by simpa using x) (by simpa using y)) ?_ ?_ ((mergeSort_perm _ _).trans (h.trans (mergeSort_perm _ _).symm))
 · exact pairwise_mergeSort (fun a b c h1 h2 => by simp at h1 h2 ⊢; exact List.le_trans h1 h2) (fun a b => by simp; exact List.le_total a b) _
 · exact pairwise_mergeSort (fun a b c h1 h2 => by simp at h1 h2 ⊢; exact List.le_trans h1 h2) (fun a b => by simp; exact List.le_total a b) _
theorem b5n {M : List Z5} (hn : (M.map (·.1)).Nodup) {x : Z5} (hx : x ∈ M) : a0n M x.1 = a2W x.2.1 := by
 unfold a0n; cases h : a2W x.2.1 with
 | true => exact any_eq_true.2 ⟨x, hx, by simp [h]⟩
 | false =>
   rw [any_eq_false]; intro y hy e; simp only [Bool.and_eq_true, decide_eq_true_eq] at e; have : y = x := by
     obtain ⟨i, hi, e1⟩ := getElem_of_mem hy; obtain ⟨j, hj, e2⟩ := getElem_of_mem hx; have := a9g hn (i := i) (j := j) (by simpa using hi) (by simpa using hj) (by simp [e1, e2, e.1]); subst this; rw [← e1, ← e2]
   rw [this, h] at e; simp at e
theorem c1x {R : List Chg} {M : List Z5} (h : MR R M) : ((M.map (·.1)).filter (a0n M)).Perm (a3o R) := by
 have h1 : (M.map (·.1)).filter (a0n M) = ((M.map fun x => (x.1, x.2.1)).filter fun p => a2W p.2).map (·.1) := by
   have : ∀ N : List Z5, (∀ x ∈ N, x ∈ M) → (N.map (·.1)).filter (a0n M) = ((N.map fun x => (x.1, x.2.1)).filter fun p => a2W p.2).map (·.1) := by
     intro N
     induction N with
     | nil => intro _; rfl
     | cons x N ih =>
       intro hN; have e := b5n h.nodup (hN x (by simp)); rw [map_cons, filter_cons, map_cons, filter_cons, e, ih (fun y hy => hN y (by simp [hy]))]; by_cases hb : a2W x.2.1 = true <;> simp [hb]
   exact this M fun _ h => h
 rw [h1]; exact (h.perm.filter _).map _
theorem b5S {M : List Z5} {k v : D} (h : (k, v) ∈ a8b M) : ∃ x ∈ M, k = .str x.1 ∧ v = x.2.2 := by
 obtain ⟨x, hx, e⟩ := mem_map.1 h; simp only [Prod.mk.injEq] at e; exact ⟨x, hx, e.1.symm, e.2.symm⟩
theorem b5I {M : List Z5} {seen : List D} (h : ∀ p ∈ a8b M, p.1 ∈ seen) : ∀ s ∈ M.map (·.1), D.str s ∈ seen := by
 intro s hs; obtain ⟨x, hx, rfl⟩ := mem_map.1 hs; exact h (.str x.1, x.2.2) (mem_map.2 ⟨x, hx, rfl⟩)
theorem a4q (M : List Z5) : ∀ k ∈ M.map (fun x => D.str x.1), G8 k k = true := by
 intro k hk; obtain ⟨x, _, rfl⟩ := mem_map.1 hk; simp [L5]
def LvI (sd : D) (u2 : Value) (M : List Z5) (bs2 : List Nat) (c2 : Nat) (k : Nat) (τ : St) : Prop := ∃ ss seen, a1e (M.map (·.1)) ss seen ∧ ss.length = k ∧ τ 0 = .d sd ∧ τ 3 = .own true 9 ((ss.filter (a0n M)).map .str) ∧
 τ 12 = .d (.map u2 (M.map fun x => .str x.1) (M.map fun x => x.2.2) bs2 c2) ∧ τ 13 = .mit u2 ((M.map fun x => D.str x.1).zip bs2, c2) seen
theorem a3A (R : List Chg) (d : D) (hd : StD R d) (hl : (N9 R).length < 100000) : Ctr prog 27 [.d d] (.own true 9 ((C0 R).map .str)) := by
 obtain ⟨u1, R1, bs1, c1, u2, M, bs2, c2, rfl, hR1, hM⟩ := hd.open; have hml : M.length < 100000 := by have := hM.perm.length_eq; simp at this; omega
 have hlive : I5 ((M.map (·.1)).filter (a0n M)) = C0 R := b2m (c1x hM); rw [← hlive]; refine fv (fun i => i == 2 || i == 3 || i == 33 || i == 3000035) func27 (by kernel_rfl) rfl rfl rfl rfl rfl ?_; simp -implicitDefEqProofs; refine A3 (a2u u1 R1 bs1 c1 u2 M bs2 c2) ?_; simp -implicitDefEqProofs [T9]; obtain ⟨sd, hsd⟩ : ∃ sd, T9 u1 R1 bs1 c1 u2 M bs2 c2 = sd := ⟨_, rfl⟩; refine H4 M.length (LvI sd u2 M bs2 c2) ⟨[], [], a1e.nil _, rfl, by simp [← hsd, T9], by simp, by simp, by simp⟩ ?_; rintro k τ hk ⟨ss, seen, hS, hsl, g0, g3, g12, g13⟩; have hfs : ∀ s, (ss ++ [s]).filter (a0n M) = _ := b7g (a0n M) ss; have hll : (ss.filter (a0n M)).length ≤ M.length := by
   have h1 := length_filter_le (a0n M) ss; have h2 := hS.le hM.nodup; simp only [length_map] at h2; omega
 simp -implicitDefEqProofs [g0, g3, g12, g13]; refine c4b (vs := M.map fun x => x.2.2) 12 (by simp [g12]) (a4q M) (fun x v hm hn => ?_) (fun hall => ?_)
 · rw [a3D] at hm; obtain ⟨x, hx, rfl, rfl⟩ := b5S hm; have hin : x.1 ∈ M.map (·.1) := mem_map.2 ⟨x, hx, rfl⟩; have hS2 := hS.next hin hn; have hlt := hS.lt hM.nodup hin hn; rw [hsl, length_map] at hlt; have hlv := b5n hM.nodup hx; have hfx := hfs x.1; rw [hlv] at hfx; obtain ⟨u, V, bs, clk, hd1, hV⟩ := hM.ab x hx; rw [← a3D] at hm; simp -implicitDefEqProofs [g0, g3, g12, g13]; refine c3W (vs := M.map fun x => x.2.2) 12 (by simp [g12]) (a4q M) hm ?_; rw [hd1]; generalize hT2 : (ss ++ [x.1]).filter (a0n M) = T2 at *; generalize hT : ss.filter (a0n M) = T at *; have hli : a2W x.2.1 = (x.2.1.cr && !x.2.1.rm) := rfl; cases hcr : x.2.1.cr <;> cases hrm : x.2.1.rm <;> rw [hcr, hrm] at hli <;> simp only [hli] at hfx <;> simp at hfx
   all_goals simp -implicitDefEqProofs [g0, g3, g12, g13, M9, hcr, hrm]
   all_goals first
     | (refine F0 hlt ⟨ss ++ [x.1], seen ++ [.str x.1], hS2, by simp [hsl], by simp [g0], by simp [g3, hT2, hfx], by simp [g12], by simp⟩; done)
     | (repeat refine ai (by omega) ?_
        exact F0 hlt ⟨ss ++ [x.1], seen ++ [.str x.1], hS2, by simp [hsl], by simp [g0], by simp [hT2, hfx], by simp [g12], by simp⟩)
 · rw [a3D] at hall; have hp := (hS.all hM.nodup (b5I hall)).filter (a0n M); have c1 := b2T (ss.filter (a0n M)) (by omega); rw [b2m hp] at c1; generalize ss.filter (a0n M) = T at *; generalize I5 ((M.map (·.1)).filter (a0n M)) = T2 at *; simp -implicitDefEqProofs [g0, g3, g12, g13]; refine b8u c1 ?_; simp -implicitDefEqProofs [g0, g3, g12, g13]
def N1 (R : List Chg) (id : Str) : Str := nmC (abF R id).nm
abbrev SM := List (Str × Str)
def P1 (m : SM) : List (D × D) := m.map fun p => (D.str p.1, D.str p.2)
def K8 (m : SM) (k : Str) : Option Str := (m.find? fun p => decide (p.1 = k)).map (·.2)
def P2 (R : List Chg) (l : List Str) : SM := l.foldl (fun m id => if (K8 m (N1 R id)).isSome then m else m ++ [(N1 R id, id)]) []
theorem b3U (R : List Chg) (l : List Str) (id : Str) : P2 R (l ++ [id]) = if (K8 (P2 R l) (N1 R id)).isSome then P2 R l else P2 R l ++ [(N1 R id, id)] := by unfold P2; rw [foldl_append]; rfl
theorem a4c (m : SM) (k : Str) : M8 (P1 m) (.str k) = (K8 m k).map .str := by
 induction m with
 | nil => rfl
 | cons p m ih =>
   simp only [M8, P1, K8, map_cons, find?_cons, L5] at ih ⊢; by_cases h : p.1 = k
   · simp [h]
   · simp only [decide_eq_false h]; exact ih
theorem a7P {m : SM} {k v : Str} (h : K8 m k = none) : S5 (P1 m) (.str k) (.str v) = P1 (m ++ [(k, v)]) := by
 have : (P1 m).any (fun p => G8 p.1 (.str k)) = false := by
   rw [any_eq_false]; intro p hp; obtain ⟨q, hq, rfl⟩ := mem_map.1 hp; simp only [K8, Option.map_eq_none_iff, find?_eq_none] at h; simpa [L5] using h q hq
 unfold S5; rw [this]; simp [P1]
theorem A1 (c : Csn) : A9 (B8 c) = 3 := rfl
theorem F8 (s : Str) : D8 prog 9 (.str s) = true := rfl
theorem a5C (M : List Z5) : ∀ k ∈ M.map (fun x => D.str x.1), D8 prog 9 k = true := by
 intro k hk; obtain ⟨x, _, rfl⟩ := mem_map.1 hk; exact F8 _
theorem a3F : Program.underlying prog 63 = some (.map 9 75) := by kernel_rfl
theorem Y0 : Program.underlying prog 80 = some (.map 9 9) := by kernel_rfl
theorem a5u {R : List Chg} {id : Str} : id ∈ C0 R ↔ (∃ c ∈ R, idC c = id) ∧ a2W (abF R id) = true := by
 unfold C0 a3o; rw [b4z, mem_map]; constructor
 · rintro ⟨p, hp, rfl⟩; obtain ⟨h1, h2⟩ := mem_filter.1 hp; obtain ⟨h3, h4⟩ := a3k.1 h1; exact ⟨h3, by rw [← h4]; exact h2⟩
 · rintro ⟨h1, h2⟩; exact ⟨(id, abF R id), mem_filter.2 ⟨a3k.2 ⟨h1, rfl⟩, h2⟩, rfl⟩
theorem a0L (R : List Chg) : (C0 R).length ≤ (N9 R).length := by
 unfold C0 a3o I5; rw [length_mergeSort, length_map]; exact length_filter_le _ _
theorem MR.live {R : List Chg} {M : List Z5} (h : MR R M) {id : Str} (hid : id ∈ C0 R) : ∃ d, M8 (a8b M) (.str id) = some d ∧ AbD (abF R id) d := by
 obtain ⟨⟨c, hc, rfl⟩, _⟩ := a5u.1 hid; obtain ⟨d, h1, h2⟩ := h.has hc; exact ⟨d, c0N h.nodup h1, h2⟩
def OwI (R : List Chg) (sd : D) (g : Nat) (k : Nat) (τ : St) : Prop := τ 0 = .d sd ∧ τ 3 = .d (.raw (.map (some g))) ∧ τ 11 = .own false 9 ((C0 R).map .str) ∧ τ 12 = .d (.int .i64 (C0 R).length) ∧ τ 13 = .d (.int .i64 k) ∧
 τ 1000000 = .hm (.map (some g)) 9 (P1 (P2 R ((C0 R).take k))) none
theorem b3T (R : List Chg) (d : D) (hd : StD R d) (hl : (N9 R).length < 100000) : F5 prog 63 [.d d] [] (fun r hs' => ∃ g, r = .d (.raw (.map (some g))) ∧ hs' = [.hm (.map (some g)) 9 (P1 (P2 R (C0 R))) none]) := by
 obtain ⟨u1, R1, bs1, c1, u2, M, bs2, c2, rfl, hR1, hM⟩ := hd.open; have hll := a0L R; have hlv := a3A R _ hd hl; refine a1a (fun _ => false) (by kernel_rfl) func63 (by kernel_rfl) rfl rfl (nbl rfl) (by kernel_rfl) rfl ?_; simp -implicitDefEqProofs [A5]; refine a9R 9 1000000 (by simp [A5]) (fun g => ?_); simp -implicitDefEqProofs [A5]; refine A3 hlv ?_; simp -implicitDefEqProofs [A5]; obtain ⟨sd, hsd⟩ : ∃ sd, T9 u1 R1 bs1 c1 u2 M bs2 c2 = sd := ⟨_, rfl⟩; refine H4 (C0 R).length (OwI R sd g) ⟨by simp [A5, ← hsd], by simp [A5], by simp [A5], by simp [A5], by simp [A5], by simp [A5, P2, P1]⟩ ?_; rintro k τ hk ⟨g0, g3, g11, g12, g13, gA⟩; by_cases hlt : k < (C0 R).length
 · have hlt' : (k : Int) < (C0 R).length := (by omega); obtain ⟨id, hid⟩ : ∃ id, (C0 R)[k] = id := ⟨_, rfl⟩; have hin : id ∈ C0 R := by rw [← hid]; exact gmm _
   obtain ⟨d, hg1, hab⟩ := hM.live hin; obtain ⟨u, V, bs, clk, hd1, hV⟩ := hab; have htk : (C0 R).take (k + 1) = (C0 R).take k ++ [id] := by rw [G9 hlt, hid]
   have hsn := b3U R ((C0 R).take k) id; rw [← htk] at hsn; have chg_eq : A7 (abF R id).nm = .agg [B8 (abF R id).nm.1, .int .i64 (abF R id).nm.2.1, .str (abF R id).nm.2.2.1, .str (N1 R id), .str (abF R id).nm.2.2.2.2.1, .str (abF R id).nm.2.2.2.2.2] := rfl; have hmg := a4c (P2 R ((C0 R).take k)) (N1 R id); rw [← a3D] at hg1; rw [hd1] at hg1; simp -implicitDefEqProofs [g0, g3, g11, g12, g13, ← hsd, T9, hlt, hlt', hid]; refine a0f a3F (F8 _) (a5C M) Tryz.zd_75 hg1 ?_; simp -implicitDefEqProofs [g0, g3, g11, g12, g13, M9, chg_eq, A1]; cases hs : K8 (P2 R ((C0 R).take k)) (N1 R id) with
   | some v =>
     rw [hs] at hsn hmg; simp at hsn; refine a1t (m := P1 (P2 R ((C0 R).take k))) (E := none) 1000000 (by omega) Y0 (by simp [gA]) (F8 _) Tryz.zd_9 hmg ?_; simp -implicitDefEqProofs [g0, g3, g11, g12, g13, hlt]; (repeat refine ai (by omega) ?_); exact F0 hlt ⟨by simp [g0, ← hsd, T9], by simp [g3], by simp [g11], by simp [g12], by simp, by simp [gA, hsn]⟩
   | none =>
     rw [hs] at hsn hmg; simp at hsn; refine a1t (m := P1 (P2 R ((C0 R).take k))) (E := none) 1000000 (by omega) Y0 (by simp [gA]) (F8 _) Tryz.zd_9 hmg ?_; simp -implicitDefEqProofs [g0, g3, g11, g12, g13, hlt]; refine a6a (m := P1 (P2 R ((C0 R).take k))) (E := none) 1000000 Y0 (by simp [gA]) (F8 _) _ (Perm.refl _) ?_; rw [a7P hs]; simp -implicitDefEqProofs [g0, g3, g11, g12, g13, hlt]; (repeat refine ai (by omega) ?_); exact F0 hlt ⟨by simp [g0, ← hsd, T9], by simp [g3], by simp [g11], by simp [g12], by simp, by simp [hsn]⟩
 · have hlt' : ¬ (k : Int) < (C0 R).length := (by omega); rw [ttl (by omega)] at gA; simp -implicitDefEqProofs [g0, g3, g11, g12, g13, hlt, hlt']; exact ⟨_, [1000000], by simp, by simp [gA, isH], by simp [a1u], g, rfl, by simp [gA]⟩
theorem b5q (a b : Chg) (ha : S6 a) (hb : S6 b) : Ctr prog 81 [.d (A7 a), .d (A7 b)] (.d (A7 (O6 a b))) := by
 have c1 := b7Z a ha; have c2 := b7Z b hb; have c3 := c6l a.1 b.1; have c4 := a7M (H9 a).1 (H9 b).1; have c5 := a7r [X2 a.1 b.1, a0H (H9 a).1 (H9 b).1] (by simp); have hlt : ltM a b = decide (orI [X2 a.1 b.1, a0H (H9 a).1 (H9 b).1] < 0) := rfl; have hla : O6 a b = if opC a = 0 ∨ (opC b ≠ 0 ∧ ltM a b = true) then b else a := rfl
 simp only [a2M, map_cons, map_nil] at c5; obtain ⟨la, hla1⟩ : ∃ la, (H9 a).1 = la := ⟨_, rfl⟩; obtain ⟨lb, hlb1⟩ : ∃ lb, (H9 b).1 = lb := ⟨_, rfl⟩; obtain ⟨ea, hea⟩ : ∃ ea, (H9 a).2 = ea := ⟨_, rfl⟩; obtain ⟨eb, heb⟩ : ∃ eb, (H9 b).2 = eb := ⟨_, rfl⟩; obtain ⟨o, ho⟩ : ∃ o, orI [X2 a.1 b.1, a0H (H9 a).1 (H9 b).1] = o := ⟨_, rfl⟩; obtain ⟨x1, hx1⟩ : ∃ x, X2 a.1 b.1 = x := ⟨_, rfl⟩; obtain ⟨x2, hx2⟩ : ∃ x, a0H (H9 a).1 (H9 b).1 = x := ⟨_, rfl⟩; rw [ho] at c5 hlt; rw [hx2] at c4 c5; rw [hx1] at c3 c5; rw [hla1] at c1 c4; rw [hlb1] at c2 c4; rw [hea] at c1; rw [heb] at c2; have ea_eq : A7 a = .agg [B8 a.1, .int .i64 (opC a), .str a.2.2.1, .str a.2.2.2.1, .str a.2.2.2.2.1, .str a.2.2.2.2.2] := rfl; have eb_eq : A7 b = .agg [B8 b.1, .int .i64 (opC b), .str b.2.2.1, .str b.2.2.2.1, .str b.2.2.2.2.1, .str b.2.2.2.2.2] := rfl; generalize hR : O6 a b = R at *; refine L9 (rv := .cell 4 35) (rs := []) (r := .d (A7 R)) (ys := []) (fun i => false) (by kernel_rfl) func81 (by kernel_rfl) rfl rfl (by simp) (nbl rfl) (by kernel_rfl) rfl rfl ?_; rw [ea_eq] at c1 ⊢; rw [eb_eq] at c2 ⊢; rcases Classical.em (opC a = 0) with h1 | h1
 · rw [if_pos (.inl h1)] at hla; subst hla; rw [eb_eq]; rw [h1] at c1; simp -implicitDefEqProofs [A1, h1]; refine A3 c1 ?_; simp -implicitDefEqProofs [A1, h1]; refine A3 c2 ?_; simp -implicitDefEqProofs [A1, h1]
 · rcases Classical.em (opC b = 0) with h2 | h2
   · rw [if_neg (by simp [h1, h2])] at hla; subst hla; rw [ea_eq]; rw [h2] at c2; simp -implicitDefEqProofs [A1, h1, h2]; refine A3 c1 ?_; simp -implicitDefEqProofs [A1, h1, h2]; refine A3 c2 ?_; simp -implicitDefEqProofs [A1, h1, h2]
   · rcases Classical.em (o < 0) with h3 | h3
     · rw [if_pos (.inr ⟨h2, by simp [hlt, h3]⟩)] at hla; subst hla; rw [eb_eq]; simp -implicitDefEqProofs [A1, h1, h2]; refine A3 c1 ?_; simp -implicitDefEqProofs [A1, h1, h2]; refine A3 c2 ?_; simp -implicitDefEqProofs [A1, h1, h2]; refine ⟨rfl, rfl, A3 c3 ?_⟩; simp -implicitDefEqProofs [A1, h1, h2]; refine A3 c4 ?_; simp -implicitDefEqProofs [A1, h1, h2]; refine ⟨by decide, A3 c5 ?_⟩; simp -implicitDefEqProofs [A1, h1, h2, h3]
     · rw [if_neg (by simp [h1, hlt, h3])] at hla; subst hla; rw [ea_eq]; simp -implicitDefEqProofs [A1, h1, h2]; refine A3 c1 ?_; simp -implicitDefEqProofs [A1, h1, h2]; refine A3 c2 ?_; simp -implicitDefEqProofs [A1, h1, h2]; refine ⟨rfl, rfl, A3 c3 ?_⟩; simp -implicitDefEqProofs [A1, h1, h2]; refine A3 c4 ?_; simp -implicitDefEqProofs [A1, h1, h2]; refine ⟨by decide, A3 c5 ?_⟩; simp -implicitDefEqProofs [A1, h1, h2, h3]
def abH (b v : Nat) (a : Abt) : List AV := [.hb (va b) 78 (M9 a (.raw (.map (some v)))), .hm (.map (some v)) 101 (vsM a.vs) none]
theorem a8s (k : VK) : D8 prog 101 (.agg [.str k.1, .str k.2]) = true := by simp [D8]
theorem c4T : Program.underlying prog 76 = some (.map 101 35) := by kernel_rfl
structure b5W (a : Abt) : Prop where
 nm : S6 a.nm
 vs : ∀ k, S6 (a0Y a.vs k)
theorem a8r (a b : VK) : G8 (vkD a) (vkD b) = decide (a = b) := by
 obtain ⟨a1, a2⟩ := a; obtain ⟨b1, b2⟩ := b; simp [vkD, G8, W7, Y9]
theorem c2T (vs : List (VK × Chg)) (k : VK) : M8 (vsM vs) (vkD k) = (a1c vs k).map A7 := by
 induction vs with
 | nil => rfl
 | cons p m ih =>
   simp only [M8, vsM, a1c, map_cons, find?_cons, a8r] at ih ⊢; by_cases h : p.1 = k
   · simp [h]
   · simp only [decide_eq_false h]; exact ih
theorem c4C (vs : List (VK × Chg)) (k : VK) (c : Chg) : S5 (vsM vs) (vkD k) (A7 c) = vsM (a4j vs k c) := by
 have e : (vsM vs).any (fun p => G8 p.1 (vkD k)) = vs.any fun p => decide (p.1 = k) := by
   simp only [vsM, any_map, Function.comp_def, a8r]
 unfold S5 a4j; rw [e]; split
 · simp only [vsM, map_map]; refine map_congr_left fun p _ => ?_
   simp only [Function.comp_apply, a8r, decide_eq_true_eq]; split <;> rfl
 · simp [vsM]
theorem b7B (b v : Nat) (a : Abt) (c : Chg) (ha : b5W a) (hc : S6 c) : F5 prog 40 [.d (.raw (va b)), .d (A7 c)] (abH b v a) (fun r hs' => r = .tup [] ∧ hs' = abH b v (O9 a c)) := by
 have c1 := b5q a.nm c ha.nm hc; have c2 := b5q (a0Y a.vs (a0C c)) c (ha.vs _) hc; have hmg := c2T a.vs (a0C c); have hms := c4C a.vs (a0C c) (O6 (a0Y a.vs (a0C c)) c); have ec_eq : A7 c = .agg [B8 c.1, .int .i64 (opC c), .str c.2.2.1, .str c.2.2.2.1, .str c.2.2.2.2.1, .str c.2.2.2.2.2] := rfl; have hta : O9 a c = if opC c = 1 then { a with cr := true, nm := O6 a.nm c }
 else if opC c = 3 then { a with nm := O6 a.nm c }
 else if opC c = 2 then { a with rm := true }
 else { a with vs := a4j a.vs (a0C c) (O6 (a0Y a.vs (a0C c)) c) } := rfl
 generalize O9 a c = A2 at *; obtain ⟨cr, rm, nm, vs⟩ := a; simp only at c1 c2 hmg hms hta; refine a3B (rs := []) (fun i => false) (by kernel_rfl) func40 (by kernel_rfl) rfl rfl (by simp) (nbl rfl) (by kernel_rfl) rfl ?_; have chg_w : ∀ x : Chg, A9 (A7 x) = 8 := fun _ => rfl
 rcases Classical.em (opC c = 1) with h1 | h1
 · rw [if_pos h1] at hta; subst hta; rw [ec_eq, h1] at c1 ⊢; generalize O6 nm c = N2 at *; simp -implicitDefEqProofs [A5, abH, M9, A1]; refine O4 (e := 78) (ds := [.bool cr, .bool rm, A7 nm, .raw (.map (some v))]) 1000000 (by simp [A5, abH, M9]) (by omega) (by simp) (by kernel_rfl) ?_; simp -implicitDefEqProofs [A5, chg_w, A1]; refine O4 (e := 78) (ds := [.bool true, .bool rm, A7 nm, .raw (.map (some v))]) 1000000 (by simp [A5, abH, M9]) (by omega) (by simp) (by kernel_rfl) ?_; simp -implicitDefEqProofs [A5, chg_w, A1]; refine ⟨rfl, E4 c1 ?_⟩; simp -implicitDefEqProofs [A5, chg_w, A1]; refine O4 (e := 78) (ds := [.bool true, .bool rm, A7 nm, .raw (.map (some v))]) 1000000 (by simp [A5, abH, M9]) (by omega) (by simp) (by kernel_rfl) ?_; simp -implicitDefEqProofs [A5, chg_w, A1]; exact ⟨[], [1000000, 1000001], by simp, by simp [A5, isH], by simp [X1], rfl, by simp [A5]⟩
 · rw [if_neg h1] at hta; rcases Classical.em (opC c = 3) with h3 | h3
   · rw [if_pos h3] at hta; subst hta; rw [ec_eq, h3] at c1 ⊢; generalize O6 nm c = N2 at *; simp -implicitDefEqProofs [A5, abH, M9, A1]; refine O4 (e := 78) (ds := [.bool cr, .bool rm, A7 nm, .raw (.map (some v))]) 1000000 (by simp [A5, abH, M9]) (by omega) (by simp) (by kernel_rfl) ?_; simp -implicitDefEqProofs [A5, chg_w, A1]; refine ⟨rfl, E4 c1 ?_⟩; simp -implicitDefEqProofs [A5, chg_w, A1]; refine O4 (e := 78) (ds := [.bool cr, .bool rm, A7 nm, .raw (.map (some v))]) 1000000 (by simp [A5, abH, M9]) (by omega) (by simp) (by kernel_rfl) ?_; simp -implicitDefEqProofs [A5, chg_w, A1]; exact ⟨[], [1000000, 1000001], by simp, by simp [A5, isH], by simp [X1], rfl, by simp [A5]⟩
   · rw [if_neg h3] at hta; rcases Classical.em (opC c = 2) with h2 | h2
     · rw [if_pos h2] at hta; subst hta; rw [ec_eq, h2] at c1 ⊢; simp -implicitDefEqProofs [A5, abH, M9, A1]; refine O4 (e := 78) (ds := [.bool cr, .bool rm, A7 nm, .raw (.map (some v))]) 1000000 (by simp [A5, abH, M9]) (by omega) (by simp) (by kernel_rfl) ?_; simp -implicitDefEqProofs [A5, chg_w, A1]; exact ⟨[], [1000000, 1000001], by simp, by simp [A5, isH], by simp [X1], rfl, by simp [A5]⟩
     · rw [if_neg h2] at hta; subst hta; have vk_eq : vkD (a0C c) = .agg [.str c.2.2.2.2.1, .str c.2.2.2.2.2] := rfl; have hlk : a0y false (.agg [.agg [.int .i64 0, .int .i64 0, .int .i64 0], .int .i64 0, .str [], .str [], .str [], .str []]) (Option.map A7 (a1c vs (a0C c))) = .d (A7 (a0Y vs (a0C c))) := by
         unfold a0Y; cases a1c vs (a0C c) <;> rfl
       rw [ec_eq] at c2 ⊢; rw [vk_eq] at hmg; simp -implicitDefEqProofs [A5, abH, M9, A1, h1, h2, h3]; refine O4 (e := 78) (ds := [.bool cr, .bool rm, A7 nm, .raw (.map (some v))]) 1000000 (by simp [A5, abH, M9]) (by omega) (by simp) (by kernel_rfl) ?_; simp -implicitDefEqProofs [A5, chg_w, A1]; refine O4 (e := 78) (ds := [.bool cr, .bool rm, A7 nm, .raw (.map (some v))]) 1000000 (by simp [A5, abH, M9]) (by omega) (by simp) (by kernel_rfl) ?_; simp -implicitDefEqProofs [A5, chg_w, A1]; refine a1t (m := vsM vs) (E := none) 1000001 (by omega) c4T (by simp [A5]) (a8s _) Tryz.zd_35 hmg ?_; rw [hlk]; simp -implicitDefEqProofs [A5, chg_w, A1]; refine E4 c2 ?_; simp -implicitDefEqProofs [A5, chg_w, A1]; refine a6a (m := vsM vs) (E := none) 1000001 c4T (by simp [A5]) (a8s _) _ (Perm.refl _) ?_; rw [← vk_eq, hms]; simp -implicitDefEqProofs [A5, chg_w, A1]; exact ⟨[], [1000000, 1000001], by simp, by simp [A5, isH], by simp [X1], rfl, by simp [A5]⟩
theorem b4o (a b : Chg) : G8 (A7 a) (A7 b) = decide (a = b) := by
 obtain ⟨⟨a1, a2, a3⟩, a4, a5, a6, a7, a8⟩ := a; obtain ⟨⟨b1, b2, b3⟩, b4, b5, b6, b7, b8⟩ := b; simp only [A7, B8, G8, W7, Y9, Prod.mk.injEq, Bool.decide_and, Bool.and_true]; simp [Bool.and_assoc, a0D, Y9]
theorem a8h (R : List Chg) (c : Chg) : M8 (P6 R) (A7 c) = if c ∈ R then some (.bool true) else none := by
 induction R with
 | nil => rfl
 | cons x R ih =>
   simp only [M8, P6, map_cons, find?_cons, b4o] at ih ⊢; by_cases h : x = c
   · simp [h]
   · simp only [decide_eq_false h]; rw [ih]; have : ¬ c = x := fun e => h e.symm
     simp [this]
theorem b3z {R : List Chg} {c : Chg} (h : c ∉ R) : S5 (P6 R) (A7 c) (.bool true) = P6 (R ++ [c]) := by
 unfold S5; rw [if_neg (by
   simp only [P6, any_map, any_eq_true, Function.comp_apply, b4o, decide_eq_true_eq, not_exists, not_and]; rintro x hx rfl; exact h hx)]
 simp [P6]
theorem a4B (c : Chg) : D8 prog 35 (A7 c) = true := by
 obtain ⟨⟨a1, a2, a3⟩, a4, a5, a6, a7, a8⟩ := c; simp [D8, A7, B8]
theorem a4C : Program.underlying prog 62 = some (.map 35 4) := by kernel_rfl
theorem b3b {E : List Q3} {id : Str} (h : ∀ e ∈ E, e.1 ≠ id) : M8 (P0 E) (.str id) = none := by
 induction E with
 | nil => rfl
 | cons x E ih =>
   have := ih fun e he => h e (by simp [he])
   simp only [M8, P0, map_cons, find?_cons, L5] at this ⊢; simp only [decide_eq_false (h x (by simp))]; exact this
theorem b3u {E : List Q3} (hn : (E.map (·.1)).Nodup) {e : Q3} (he : e ∈ E) : M8 (P0 E) (.str e.1) = some (.raw (va e.2.2.1)) := by
 induction E with
 | nil => simp at he
 | cons x E ih =>
   rw [map_cons, nodup_cons] at hn; rcases mem_cons.1 he with rfl | he
   · simp [M8, P0, L5]
   · have hne : ¬ x.1 = e.1 := fun q => hn.1 (mem_map.2 ⟨_, he, q.symm⟩)
     have := ih hn.2 he; simp only [M8, P0, map_cons, find?_cons, L5, decide_eq_false hne] at this ⊢; exact this
theorem a9o {E : List Q3} {id : Str} {a : Abt} {b v : Nat} (h : ∀ e ∈ E, e.1 ≠ id) : S5 (P0 E) (.str id) (.raw (va b)) = P0 (E ++ [(id, a, b, v)]) := by
 unfold S5; rw [if_neg (by
   simp only [P0, any_map, any_eq_true, Function.comp_apply, L5, decide_eq_true_eq, not_exists, not_and]; exact h)]
 simp [P0]
def X8 (R : List Chg) (c : Chg) : Int := if I1 c ≠ 0 then I1 c else if c ∈ R then 0 else if 4096 ≤ R.length then 3 else 0
def N6 (R : List Chg) (c : Chg) : List Chg := if I1 c = 0 ∧ c ∉ R ∧ R.length < 4096 then R ++ [c] else R
def stD (r m : Nat) : D := .agg [.raw (.map (some r)), .raw (.map (some m))]
theorem a8E (s r m : Nat) : F5 prog 39 [.d (.raw (va s))] [.hb (va s) 65 (stD r m)] (fun x hs' => x = .d (.bool true) ∧ hs' = [.hb (va s) 65 (stD r m)]) := by
 refine a1a (fun _ => false) (by kernel_rfl) func39 (by kernel_rfl) rfl rfl (nbl rfl) (by kernel_rfl) rfl ?_; simp -implicitDefEqProofs [A5, stD]; refine O4 (e := 65) (ds := [.raw (.map (some r)), .raw (.map (some m))]) 1000000 (by simp [A5]) (by omega) (by simp) (by kernel_rfl) ?_; simp -implicitDefEqProofs [A5]; exact ⟨.d (.bool true), [1000000], by simp, by simp [A5, isH], by simp [a1u], by simp, by simp [A5]⟩
theorem c0P (s r m : Nat) (R : List Chg) (E : List Q3) (c : Chg) (hc : S6 c) (h : I1 c ≠ 0 ∨ c ∈ R ∨ 4096 ≤ R.length) :
   F5 prog 13 [.d (.raw (va s)), .d (A7 c)] (R8 s r m R E) (fun x hs' => x = .d (.int .i64 (X8 R c)) ∧ hs' = R8 s r m R E) := by
 have c1 := a8E s r m; have c2 := a9I c hc; have hmg := a8h R c; have ec_eq : A7 c = .agg [B8 c.1, .int .i64 (opC c), .str c.2.2.1, .str c.2.2.2.1, .str c.2.2.2.2.1, .str c.2.2.2.2.2] := rfl; have hkf := a4B c; simp only [stD] at c1; refine a5X (fun i => i == 5000007 || i == 5000056 || i == 21000012 || i == 1000047) (by kernel_rfl) func13 (by kernel_rfl) rfl rfl (nbl rfl) (by kernel_rfl) rfl ?_; rw [ec_eq] at c2 hkf hmg ⊢; have hlr : (P6 R).length = R.length := (by simp [P6]); rcases Classical.em (I1 c = 0) with h0 | h0
 · rw [h0] at c2; rcases Classical.em (c ∈ R) with h1 | h1
   · have he : X8 R c = 0 := (by simp [X8, h0, h1]); rw [if_pos h1] at hmg; rw [he]; simp -implicitDefEqProofs [A5, R8, A1]; refine K4 [1000000] 1000000 c1 (by simp [A5, R8]) rfl (by simp) ?_; rintro x hs' ⟨rfl, rfl⟩; simp -implicitDefEqProofs [A5, C6, B9, A1]; refine A3 c2 ?_; simp -implicitDefEqProofs [A5, C6, B9, A1]; refine O4 (e := 65) (ds := [.raw (.map (some r)), .raw (.map (some m))]) 1000000 (by simp [A5]) (by omega) (by simp) (by kernel_rfl) ?_; simp -implicitDefEqProofs [A5, C6, B9, A1]; refine a1t (m := P6 R) (E := none) 1000001 (by omega) a4C (by simp [A5]) hkf Tryz.zd_4 hmg ?_; simp -implicitDefEqProofs [A5, C6, B9, A1]; exact ⟨.d (.int .i64 (0)), [1000000, 1000001, 1000002], by simp, by simp [A5, isH], by simp [a1u], by simp, by simp [A5]⟩
   · have h2 : 4096 ≤ R.length := by rcases h with h | h | h <;> first | contradiction | exact h
     have he : X8 R c = 3 := (by simp [X8, h0, h1, h2]); rw [if_neg h1] at hmg; rw [he]; simp -implicitDefEqProofs [A5, R8, A1]; refine K4 [1000000] 1000000 c1 (by simp [A5, R8]) rfl (by simp) ?_; rintro x hs' ⟨rfl, rfl⟩; simp -implicitDefEqProofs [A5, C6, B9, A1]; refine A3 c2 ?_; simp -implicitDefEqProofs [A5, C6, B9, A1]; refine O4 (e := 65) (ds := [.raw (.map (some r)), .raw (.map (some m))]) 1000000 (by simp [A5]) (by omega) (by simp) (by kernel_rfl) ?_; simp -implicitDefEqProofs [A5, C6, B9, A1]; refine a1t (m := P6 R) (E := none) 1000001 (by omega) a4C (by simp [A5]) hkf Tryz.zd_4 hmg ?_; simp -implicitDefEqProofs [A5, C6, B9, A1]; refine O4 (e := 65) (ds := [.raw (.map (some r)), .raw (.map (some m))]) 1000000 (by simp [A5]) (by omega) (by simp) (by kernel_rfl) ?_; simp -implicitDefEqProofs [A5, C6, B9, A1]; refine c4E (m := P6 R) (E := none) 1000001 (by omega) a4C (by simp [A5]) ?_; have h2' : (4096 : Int) ≤ (P6 R).length := by rw [hlr]; omega
     simp -implicitDefEqProofs [A5, C6, B9, A1, h2']; exact ⟨.d (.int .i64 (3)), [1000000, 1000001, 1000002], by simp, by simp [A5, isH], by simp [a1u], by simp, by simp [A5]⟩
 · have he : X8 R c = I1 c := (by simp [X8, h0]); rw [he]; simp -implicitDefEqProofs [A5, R8, A1]; refine K4 [1000000] 1000000 c1 (by simp [A5, R8]) rfl (by simp) ?_; rintro x hs' ⟨rfl, rfl⟩; simp -implicitDefEqProofs [A5, C6, B9, A1]; refine A3 c2 ?_; simp -implicitDefEqProofs [A5, C6, B9, A1, h0]; exact ⟨.d (.int .i64 (I1 c)), [1000000, 1000001, 1000002], by simp, by simp [A5, isH], by simp [a1u], by simp, by simp [A5]⟩
theorem c0W (s r m : Nat) (R : List Chg) (E : List Q3) (c : Chg) (a : Abt) (b v : Nat) (hn : (E.map (·.1)).Nodup) (hin : (idC c, a, b, v) ∈ E) (ha : b5W a) (hc : S6 c) (h0 : I1 c = 0) (h1 : c ∉ R) (h2 : R.length < 4096) :
   F5 prog 13 [.d (.raw (va s)), .d (A7 c)] (R8 s r m R E ++ abH b v a) (fun x hs' => x = .d (.int .i64 0) ∧ hs' = R8 s r m (R ++ [c]) E ++ abH b v (O9 a c)) := by
 have c1 := a8E s r m; have c2 := a9I c hc; have c3 := b7B b v a c ha hc; have hmg := a8h R c; have hms := b3z h1; have hge := b3u hn hin; have ec_eq : A7 c = .agg [B8 c.1, .int .i64 (opC c), .str c.2.2.1, .str c.2.2.2.1, .str c.2.2.2.2.1, .str c.2.2.2.2.2] := rfl; have hkf := a4B c; simp only [stD] at c1; rw [if_neg h1] at hmg; rw [h0] at c2; simp only at hge; refine a5X (fun i => i == 5000007 || i == 5000056 || i == 21000012 || i == 1000047) (by kernel_rfl) func13 (by kernel_rfl) rfl rfl (nbl rfl) (by kernel_rfl) rfl ?_; rw [ec_eq] at c2 c3 hkf hmg hms ⊢; have hlr : (P6 R).length = R.length := (by simp [P6]); have h2' : ¬ (4096 : Int) ≤ (P6 R).length := by rw [hlr]; omega
 simp only [abH] at c3 ⊢; generalize O9 a c = A2 at *; simp -implicitDefEqProofs [A5, R8, A1]; refine K4 [1000000] 1000000 c1 (by simp [A5, R8]) rfl (by simp) ?_; rintro x hs' ⟨rfl, rfl⟩; simp -implicitDefEqProofs [A5, C6, B9, A1]; refine A3 c2 ?_; simp -implicitDefEqProofs [A5, C6, B9, A1]; refine O4 (e := 65) (ds := [.raw (.map (some r)), .raw (.map (some m))]) 1000000 (by simp [A5]) (by omega) (by simp) (by kernel_rfl) ?_; simp -implicitDefEqProofs [A5, C6, B9, A1]; refine a1t (m := P6 R) (E := none) 1000001 (by omega) a4C (by simp [A5]) hkf Tryz.zd_4 hmg ?_; simp -implicitDefEqProofs [A5, C6, B9, A1]; refine O4 (e := 65) (ds := [.raw (.map (some r)), .raw (.map (some m))]) 1000000 (by simp [A5]) (by omega) (by simp) (by kernel_rfl) ?_; simp -implicitDefEqProofs [A5, C6, B9, A1]; refine c4E (m := P6 R) (E := none) 1000001 (by omega) a4C (by simp [A5]) ?_; simp -implicitDefEqProofs [A5, C6, B9, A1, h2']; refine O4 (e := 65) (ds := [.raw (.map (some r)), .raw (.map (some m))]) 1000000 (by simp [A5]) (by omega) (by simp) (by kernel_rfl) ?_; simp -implicitDefEqProofs [A5, C6, B9, A1]; refine a6a (m := P6 R) (E := none) 1000001 a4C (by simp [A5]) hkf _ (Perm.refl _) ?_; rw [hms]; simp -implicitDefEqProofs [A5, C6, B9, A1]; refine O4 (e := 65) (ds := [.raw (.map (some r)), .raw (.map (some m))]) 1000000 (by simp [A5]) (by omega) (by simp) (by kernel_rfl) ?_; simp -implicitDefEqProofs [A5, C6, B9, A1]; refine a1t (m := P0 E) (E := none) 1000002 (by omega) a3F (by simp [A5]) (F8 _) Tryz.zd_75 hge ?_; simp -implicitDefEqProofs [A5, C6, B9, A1]; refine O4 (e := 65) (ds := [.raw (.map (some r)), .raw (.map (some m))]) 1000000 (by simp [A5]) (by omega) (by simp) (by kernel_rfl) ?_; simp -implicitDefEqProofs [A5, C6, B9, A1]; refine a1t (m := P0 E) (E := none) 1000002 (by omega) a3F (by simp [A5]) (F8 _) Tryz.zd_75 hge ?_; simp -implicitDefEqProofs [A5, C6, B9, A1]; refine K4 [1000003, 1000004] 1000003 c3 (by simp [A5]) rfl (by simp) ?_; rintro x hs' ⟨rfl, rfl⟩; simp -implicitDefEqProofs [A5, C6, B9, A1]; exact ⟨.d (.int .i64 0), [1000000, 1000001, 1000002, 1000003, 1000004], by simp, by simp [A5, isH], by simp [a1u], by simp, by simp [A5]⟩
theorem c2q : b5W S3 := by
 refine ⟨⟨by simp [S3, M6], by simp [S3, M6], by simp [S3, M6], by simp [S3, M6]⟩, fun k => ?_⟩; simp [S3, a0Y, a1c]; exact ⟨by simp [M6], by simp [M6], by simp [M6], by simp [M6]⟩
theorem c2f (s r m : Nat) (R : List Chg) (E : List Q3) (c : Chg) (hnew : ∀ e ∈ E, e.1 ≠ idC c) (hc : S6 c) (h0 : I1 c = 0) (h1 : c ∉ R) (h2 : R.length < 4096) :
   F5 prog 13 [.d (.raw (va s)), .d (A7 c)] (R8 s r m R E) (fun x hs' => x = .d (.int .i64 0) ∧ ∃ b v, hs' = R8 s r m (R ++ [c]) (E ++ [(idC c, O9 S3 c, b, v)]) ++ abH b v (O9 S3 c)) := by
 have c1 := a8E s r m; have c2 := a9I c hc; have c3 : ∀ b v, _ := fun b v => b7B b v S3 c c2q hc
 have hmg := a8h R c; have hms := b3z h1; have hge := b3b hnew; have hme : ∀ b v, _ := fun b v => a9o (a := O9 S3 c) (b := b) (v := v) hnew
 have hg2 : ∀ b, M8 (S5 (P0 E) (.str (idC c)) (.raw (va b))) (.str (idC c)) = some (.raw (va b)) := fun b => by
   rw [a9o (a := O9 S3 c) (b := b) (v := 0) hnew]; have : ∀ E : List Q3, (∀ e ∈ E, e.1 ≠ idC c) → M8 (P0 (E ++ [(idC c, O9 S3 c, b, 0)])) (.str (idC c)) = some (.raw (va b)) := by
     intro E
     induction E with
     | nil => intro _; simp [M8, P0, L5]
     | cons x E ih =>
       intro h; have := ih fun e he => h e (by simp [he])
       simp only [M8, P0, cons_append, map_cons, find?_cons, L5, decide_eq_false (h x (by simp))] at this ⊢; exact this
   exact this E hnew
 have ec_eq : A7 c = .agg [B8 c.1, .int .i64 (opC c), .str c.2.2.1, .str c.2.2.2.1, .str c.2.2.2.2.1, .str c.2.2.2.2.2] := rfl; have hkf := a4B c; have za_eq : ∀ v, M9 S3 (.raw (.map (some v))) = .agg [.bool false, .bool false, .agg [.agg [.int .i64 0, .int .i64 0, .int .i64 0], .int .i64 0, .str [], .str [], .str [], .str []], .raw (.map (some v))] := fun _ => rfl
 have zv : S3.vs = [] := rfl; have zvm : vsM [] = [] := rfl; simp only [stD] at c1; rw [if_neg h1] at hmg; rw [h0] at c2; refine a5X (fun i => i == 5000007 || i == 5000056 || i == 21000012 || i == 1000047) (by kernel_rfl) func13 (by kernel_rfl) rfl rfl (nbl rfl) (by kernel_rfl) rfl ?_; rw [ec_eq] at c2 c3 hkf hmg hms ⊢; have hlr : (P6 R).length = R.length := (by simp [P6]); have h2' : ¬ (4096 : Int) ≤ (P6 R).length := by rw [hlr]; omega
 simp only [abH] at c3 ⊢; simp only [za_eq, zv, zvm] at c3; generalize O9 S3 c = A2 at *; simp -implicitDefEqProofs [A5, R8, A1]; refine K4 [1000000] 1000000 c1 (by simp [A5, R8]) rfl (by simp) ?_; rintro x hs' ⟨rfl, rfl⟩; simp -implicitDefEqProofs [A5, C6, B9, A1]; refine A3 c2 ?_; simp -implicitDefEqProofs [A5, C6, B9, A1]; refine O4 (e := 65) (ds := [.raw (.map (some r)), .raw (.map (some m))]) 1000000 (by simp [A5]) (by omega) (by simp) (by kernel_rfl) ?_; simp -implicitDefEqProofs [A5, C6, B9, A1]; refine a1t (m := P6 R) (E := none) 1000001 (by omega) a4C (by simp [A5]) hkf Tryz.zd_4 hmg ?_; simp -implicitDefEqProofs [A5, C6, B9, A1]; refine O4 (e := 65) (ds := [.raw (.map (some r)), .raw (.map (some m))]) 1000000 (by simp [A5]) (by omega) (by simp) (by kernel_rfl) ?_; simp -implicitDefEqProofs [A5, C6, B9, A1]; refine c4E (m := P6 R) (E := none) 1000001 (by omega) a4C (by simp [A5]) ?_; simp -implicitDefEqProofs [A5, C6, B9, A1, h2']; refine O4 (e := 65) (ds := [.raw (.map (some r)), .raw (.map (some m))]) 1000000 (by simp [A5]) (by omega) (by simp) (by kernel_rfl) ?_; simp -implicitDefEqProofs [A5, C6, B9, A1]; refine a6a (m := P6 R) (E := none) 1000001 a4C (by simp [A5]) hkf _ (Perm.refl _) ?_; rw [hms]; simp -implicitDefEqProofs [A5, C6, B9, A1]; refine O4 (e := 65) (ds := [.raw (.map (some r)), .raw (.map (some m))]) 1000000 (by simp [A5]) (by omega) (by simp) (by kernel_rfl) ?_; simp -implicitDefEqProofs [A5, C6, B9, A1]; refine a1t (m := P0 E) (E := none) 1000002 (by omega) a3F (by simp [A5]) (F8 _) Tryz.zd_75 hge ?_; simp -implicitDefEqProofs [A5, C6, B9, A1]; refine d3x 9 [0, 1, 2, 3, 4, 5, 6, 7, 8] [39, 40, 41, 42, 43, 44, 45, 46, 47] (by kernel_rfl) (by kernel_rfl) ?_; simp -implicitDefEqProofs [A5, C6, B9, A1]; refine O4 (e := 65) (ds := [.raw (.map (some r)), .raw (.map (some m))]) 1000000 (by simp [A5]) (by omega) (by simp) (by kernel_rfl) ?_; simp -implicitDefEqProofs [A5, C6, B9, A1]; refine d0S 101 1000004 (by omega) (by simp [A5]) (fun v => ?_); simp -implicitDefEqProofs [A5, C6, B9, A1]; refine c9L 1000003 (by omega) (by simp [A5]) (fun b => ?_); simp -implicitDefEqProofs [A5, C6, B9, A1]; refine a6a (m := P0 E) (E := none) 1000002 a3F (by simp [A5]) (F8 _) _ (Perm.refl _) ?_; have hme := hme b v; have hg2 := hg2 b; have hvb : va b = .pointer (some ⟨b, 0, none⟩) := rfl; rw [hme] at hg2; rw [← hvb, hme]; simp -implicitDefEqProofs [A5, C6, B9, A1]; refine O4 (e := 65) (ds := [.raw (.map (some r)), .raw (.map (some m))]) 1000000 (by simp [A5]) (by omega) (by simp) (by kernel_rfl) ?_; simp -implicitDefEqProofs [A5, C6, B9, A1]; refine a1t (m := P0 (E ++ [(idC c, A2, b, v)])) (E := none) 1000002 (by omega) a3F (by simp [A5]) (F8 _) Tryz.zd_75 hg2 ?_; simp -implicitDefEqProofs [A5, C6, B9, A1]; refine K4 [1000003, 1000004] 1000003 (c3 b v) (by simp [A5]) rfl (by simp) ?_; rintro x hs' ⟨rfl, rfl⟩; simp -implicitDefEqProofs [A5, C6, B9, A1]; exact ⟨.d (.int .i64 0), [1000000, 1000001, 1000002, 1000003, 1000004], by simp, by simp [A5, isH], by simp [a1u], rfl, b, v, by simp [A5]⟩
theorem b3N : S6 M6 := ⟨by simp [M6], by simp [M6], by simp [M6], by simp [M6]⟩
theorem b4q (a b : Chg) : O6 a b = a ∨ O6 a b = b := by
 unfold O6; split
 · exact .inr rfl
 · exact .inl rfl
theorem c1M (vs : List (VK × Chg)) (k k' : VK) (c : Chg) : a0Y (a4j vs k c) k' = if k = k' then c else a0Y vs k' := by
 unfold a0Y a1c a4j; by_cases ha : vs.any (fun p => decide (p.1 = k)) = true
 · rw [if_pos ha]; have key : ∀ vs : List (VK × Chg), ((vs.map fun p => if p.1 = k then (p.1, c) else p).find? fun p => decide (p.1 = k')) = (vs.find? fun p => decide (p.1 = k')).map fun p => if p.1 = k then (p.1, c) else p := by
     intro vs
     induction vs with
     | nil => rfl
     | cons p vs ih =>
       rw [map_cons, find?_cons, find?_cons]; by_cases h : p.1 = k
       · rw [if_pos h]; by_cases h2 : p.1 = k'
         · simp only [decide_eq_true h2, Option.map_some, if_pos h]
         · simp only [decide_eq_false h2]; exact ih
       · rw [if_neg h]; by_cases h2 : p.1 = k'
         · simp only [decide_eq_true h2, Option.map_some, if_neg h]
         · simp only [decide_eq_false h2]; exact ih
   rw [key]; by_cases h : k = k'
   · rw [if_pos h]; obtain ⟨p, hp, e⟩ := any_eq_true.1 ha; cases hf : vs.find? fun p => decide (p.1 = k') with
     | none => exact absurd (by rw [← h]; exact e) (find?_eq_none.1 hf p hp)
     | some q =>
       have : q.1 = k' := by simpa using find?_some hf
       simp [this, h]
   · rw [if_neg h]; cases hf : vs.find? fun p => decide (p.1 = k') with
     | none => rfl
     | some q =>
       have hq : q.1 = k' := by simpa using find?_some hf
       have : ¬ q.1 = k := fun e => h (e.symm.trans hq)
       simp [this]
 · rw [if_neg ha, find?_append]; by_cases h : k = k'
   · subst h; rw [if_pos rfl]; have : vs.find? (fun p => decide (p.1 = k)) = none := by
       rw [find?_eq_none]; intro p hp hq; exact ha (any_eq_true.2 ⟨p, hp, hq⟩)
     simp [this]
   · rw [if_neg h]; have : find? (fun p : VK × Chg => decide (p.1 = k')) [(k, c)] = none := by simp [h]
     simp [this]
theorem b5A (R : List Chg) (id : Str) : ((abF R id).nm ∈ R ∨ (abF R id).nm = M6) ∧ ∀ k, a0Y (abF R id).vs k ∈ R ∨ a0Y (abF R id).vs k = M6 := by
 refine V0 (P := fun R => ((abF R id).nm ∈ R ∨ (abF R id).nm = M6) ∧ ∀ k, a0Y (abF R id).vs k ∈ R ∨ a0Y (abF R id).vs k = M6) ⟨.inr rfl, fun k => .inr rfl⟩ (fun R c ih => ?_) R; have h1 : (abF R id).nm ∈ R ++ [c] ∨ (abF R id).nm = M6 := ih.1.imp (fun h => by simp [h]) (fun h => h); have h2 : ∀ k, a0Y (abF R id).vs k ∈ R ++ [c] ∨ a0Y (abF R id).vs k = M6 := fun k => (ih.2 k).imp (fun h => by simp [h]) (fun h => h)
 rw [a0T]; split
 · have h3 : O6 (abF R id).nm c ∈ R ++ [c] ∨ O6 (abF R id).nm c = M6 := by
     rcases b4q (abF R id).nm c with e | e
     · rw [e]; exact h1
     · rw [e]; simp
   unfold O9; split
   · exact ⟨h3, h2⟩
   · split
     · exact ⟨h3, h2⟩
     · split
       · exact ⟨h1, h2⟩
       · refine ⟨h1, fun k => ?_⟩; simp only [c1M]; split
         · rcases b4q (a0Y (abF R id).vs (a0C c)) c with e | e
           · rw [e]; exact h2 _
           · rw [e]; simp
         · exact h2 k
 · exact ⟨h1, h2⟩
theorem c6d {R : List Chg} (h : ∀ c ∈ R, S6 c) (id : Str) : b5W (abF R id) := by
 obtain ⟨h1, h2⟩ := b5A R id; refine ⟨h1.elim (h _) fun e => by rw [e]; exact b3N, fun k => (h2 k).elim (h _) fun e => by rw [e]; exact b3N⟩
theorem b6V {E : List Q3} {R : List Chg} (hE : U5 E = N9 R) : E.map (·.1) = (N9 R).map (·.1) := by
 rw [← hE]; simp [U5, Function.comp_def]
theorem c3w {E1 E2 : List Q3} {i : Str} {a a' : Abt} {b v : Nat} : P0 (E1 ++ (i, a', b, v) :: E2) = P0 (E1 ++ (i, a, b, v) :: E2) := by simp [P0]
theorem b3d (i : Str) (a : Abt) (b v : Nat) : a1r (i, a, b, v) = abH b v a := rfl
theorem c3T (s r m : Nat) (R : List Chg) (E : List Q3) (hE : U5 E = N9 R) (hR : ∀ c ∈ R, S6 c) (c : Chg) (hc : S6 c) :
   F5 prog 13 [.d (.raw (va s)), .d (A7 c)] (stH s r m R E) (fun x hs' => x = .d (.int .i64 (X8 R c)) ∧ ∃ E', U5 E' = N9 (N6 R c) ∧ hs' = stH s r m (N6 R c) E') := by
 have hnd : (E.map (·.1)).Nodup := by rw [b6V hE]; exact a4m R
 by_cases hrej : I1 c ≠ 0 ∨ c ∈ R ∨ 4096 ≤ R.length
 · have e1 : N6 R c = R := by
     unfold N6; rw [if_neg]; rintro ⟨h1, h2, h3⟩; rcases hrej with h | h | h
     · exact h h1
     · exact h2 h
     · omega
   rw [e1]; refine ((c0P s r m R E c hc hrej).frame (E.flatMap a1r)).post ?_; rintro x hs' ⟨h1, rfl, rfl, rfl⟩; exact ⟨rfl, E, hE, rfl⟩
 · have h0 : I1 c = 0 := by
     refine Classical.byContradiction fun h => hrej (.inl h)
   have h1 : c ∉ R := fun h => hrej (.inr (.inl h))
   have h2 : R.length < 4096 := by
     refine Classical.byContradiction fun h => hrej (.inr (.inr (by omega)))
   have e1 : N6 R c = R ++ [c] := by unfold N6; rw [if_pos ⟨h0, h1, h2⟩]
   have e2 : X8 R c = 0 := by
     unfold X8; rw [if_neg (by simpa using h0), if_neg h1, if_neg (by omega)]
   rw [e1, e2]; by_cases hk : ∃ e ∈ E, e.1 = idC c
   · obtain ⟨⟨i, a, b, v⟩, he, hi⟩ := hk; simp only at hi; subst hi; obtain ⟨E1, E2, rfl⟩ := append_of_mem he; have hmem : (idC c, a) ∈ N9 R := by rw [← hE]; exact mem_map.2 ⟨_, he, rfl⟩
     have ha : b5W a := by rw [(a3k.1 hmem).2]; exact c6d hR _
     have hc1 := ((c0W s r m R (E1 ++ (idC c, a, b, v) :: E2) c a b v hnd he ha hc h0 h1 h2).frame (E1.flatMap a1r ++ E2.flatMap a1r)).perm (hs2 := stH s r m R (E1 ++ (idC c, a, b, v) :: E2)) (by
       simp only [stH, flatMap_append, flatMap_cons, append_assoc, b3d]; refine perm_append_left_iff _ |>.2 ?_
       rw [← append_assoc, ← append_assoc]; exact Perm.append_right _ perm_append_comm)
     refine hc1.permOut ?_; rintro x hs' ⟨h1', rfl, rfl, rfl⟩; refine ⟨stH s r m (R ++ [c]) (E1 ++ (idC c, O9 a c, b, v) :: E2), ?_, rfl, E1 ++ (idC c, O9 a c, b, v) :: E2, ?_, rfl⟩
     · simp only [stH, R8, flatMap_append, flatMap_cons, append_assoc, b3d, c3w (a := a) (a' := O9 a c)]; refine perm_append_left_iff _ |>.2 ?_
       rw [← append_assoc, ← append_assoc]; exact Perm.append_right _ perm_append_comm
     · rw [a5w, ← hE]; have hd1 : ∀ e ∈ E1, ¬ e.1 = idC c := fun e he' q => by
         rw [map_append, nodup_append] at hnd; exact hnd.2.2 e.1 (mem_map.2 ⟨e, he', rfl⟩) (idC c) (by simp) q
       have hd2 : ∀ e ∈ E2, ¬ e.1 = idC c := fun e he' q => by
         rw [map_append, nodup_append] at hnd; have := hnd.2.1; rw [map_cons, nodup_cons] at this; exact this.1 (by rw [← q]; exact mem_map.2 ⟨e, he', rfl⟩)
       unfold a4P; rw [if_pos (by simp [U5])]; simp only [U5, map_append, map_cons, map_map, if_true]; congr 1
       · refine map_congr_left fun e he' => ?_
         simp only [Function.comp_apply, if_neg (hd1 e he')]
       · congr 1
         refine map_congr_left fun e he' => ?_
         simp only [Function.comp_apply, if_neg (hd2 e he')]
   · have hnew : ∀ e ∈ E, e.1 ≠ idC c := fun e he q => hk ⟨e, he, q⟩
     have hc1 := (c2f s r m R E c hnew hc h0 h1 h2).frame (E.flatMap a1r); refine hc1.permOut ?_; rintro x hs' ⟨h1', rfl, rfl, b, v, rfl⟩; refine ⟨_, ?_, rfl, E ++ [(idC c, O9 S3 c, b, v)], ?_, rfl⟩
     · simp only [stH, flatMap_append, flatMap_cons, flatMap_nil, append_nil, append_assoc, b3d]; exact perm_append_left_iff _ |>.2 perm_append_comm
     · rw [a5w, ← hE]; unfold a4P U5; rw [if_neg]
       · simp
       · simp only [any_map, any_eq_true, Function.comp_apply, decide_eq_true_eq, not_exists, not_and]; exact hnew
theorem c0a : F5 prog 11 [] [] (fun x hs' => ∃ s r m, x = .d (.raw (va s)) ∧ hs' = stH s r m [] []) := by
 refine a1a (fun i => i == 1000004) (by kernel_rfl) func11 (by kernel_rfl) rfl rfl (nbl rfl) (by kernel_rfl) rfl ?_; simp -implicitDefEqProofs [A5]; refine a9R 35 1000001 (by simp [A5]) (fun r => ?_); simp -implicitDefEqProofs [A5]; refine a9R 9 1000002 (by simp [A5]) (fun m => ?_); simp -implicitDefEqProofs [A5]; refine ⟨1000000, by simp [A5], fun s => ?_⟩; simp -implicitDefEqProofs [A5]; exact ⟨.d (.raw (va s)), [1000000, 1000001, 1000002], by simp, by simp [A5, isH], by simp [a1u, A5], s, rfl, r, m, by simp [A5, stH, R8, P6, P0]⟩
@[simp] theorem c6X {P : Program} {F : Nat → Bool} {K : St → Prop} {σ : St} (ds : List Nat) (d : Nat) (args : Array Operand) (ts : Array TypeId) (ty : TypeId) (pos : String) (after : Array Edge) (g : Option (Nat × Bool)) (rest : List Oper) :
   F2 P F ds ({ dst := some d, op := .call { callee := .builtin .min, args, argTypes := ts }, type := ty, pos, after, guard := g } :: rest) K σ = D3 P F (.call { callee := .builtin .min, args, argTypes := ts }) d σ (M1 ds d (F2 P F ds rest K) σ) := rfl
def b5u (v id : Str) : Str := v.take (min v.length (256 - (id.length + 1))) ++ 35 :: id
def b3q (own id : Str) : List G1 := match (E7 own).1 with
 | [] => []
 | p :: l => (p.1, b5u p.2 id) :: l
def b0W (own id : Str) : Str := (H7 (b3q own id)).1
theorem c3I (own id : Str) (ho : length own < 900000) (hi : length id < 200) (hp : (E7 own).1 ≠ []) : Ctr prog 89 [.d (.str own), .d (.str id)] (.d (.str (b0W own id))) := by
 have c1 := b4v own ho; obtain ⟨p, l, hpl⟩ : ∃ p l, (E7 own).1 = p :: l := by
   cases h : (E7 own).1 with
   | nil => exact absurd h hp
   | cons p l => exact ⟨p, l, rfl⟩
 have hoth : b3q own id = (p.1, b5u p.2 id) :: l := (by simp [b3q, hpl]); have hfit : a9v (b3q own id) := by
   have h1 := a1n own; rw [hpl] at h1; rw [hoth]; refine ⟨by simpa using h1.1, fun q hq => ?_⟩; rcases mem_cons.1 hq with rfl | hq
   · have := h1.2 p (by simp); refine ⟨this.1, ?_⟩; simp only [b5u, length_append, length_take, length_cons]; omega
   · exact h1.2 q (by simp [hq])
 have c2 := a7h _ hfit; rw [hpl] at c1; obtain ⟨e1, he1⟩ : ∃ e1, (E7 own).2 = e1 := ⟨_, rfl⟩; rw [he1] at c1; obtain ⟨S, hS⟩ : ∃ S, H7 (b3q own id) = S := ⟨_, rfl⟩; have hos : b0W own id = S.1 := by rw [← hS]; rfl
 rw [hS] at c2; rw [hos]; rw [hoth] at c2; refine fv (fun i => i == 9000003 || i == 9000004 || i == 41) func89 (by kernel_rfl) rfl rfl rfl rfl rfl ?_; simp -implicitDefEqProofs; refine A3 c1 ?_; simp -implicitDefEqProofs [K7, P8]; refine ⟨by omega, ⟨by omega, by omega⟩, ?_⟩; have hmin : ((if (256 : Int) - ((length id : Nat) + 1) < (length p.2 : Nat) then (256 : Int) - ((length id : Nat) + 1) else (length p.2 : Nat)) : Int) = ((min p.2.length (256 - (id.length + 1)) : Nat) : Int) := by
   split <;> omega
 have hcut : b5u p.2 id = p.2.take (min p.2.length (256 - (id.length + 1))) ++ 35 :: id := rfl; have hm0 : min p.2.length (256 - (id.length + 1)) ≤ p.2.length := Nat.min_le_left _ _; generalize min p.2.length (256 - (id.length + 1)) = m at *; simp -implicitDefEqProofs [K7, P8, hmin]; have hl8 : l.length < 1000000 := by have := (hoth ▸ hfit : a9v ((p.1, b5u p.2 id) :: l)).1; simp at this; omega
 refine ⟨hm0, by have := Nat.min_le_left m (length p.2); have := a1n own; rw [hpl] at this; have := (this.2 p (by simp)).2; omega, ?_, ?_, by omega, by omega, ?_⟩
 · rintro a x y _ rfl; rfl
 · intro u hu; obtain ⟨q, _, rfl⟩ := mem_map.1 (mem_of_mem_take hu); rfl
 have htk : (l.map P8).take l.length = l.map P8 := ttl (by simp); rw [htk]; rw [hcut] at c2; refine E4 c2 ?_; simp -implicitDefEqProofs
end Go.Proofs.Tz