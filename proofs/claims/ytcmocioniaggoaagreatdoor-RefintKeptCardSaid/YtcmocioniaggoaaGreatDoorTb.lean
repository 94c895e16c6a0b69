/-
  What the functions that the statements about references reach compute, part 2 of 6, for data of bounded size (each theorem states its bound).
-/import Derived.Test.YtcmocioniaggoaaGreatDoorTa
import Derived.Shelf.SlSortCmp.WholeK
import Derived.Shelf.SlSortCmp.Whole1
import Derived.Shelf.SlSortCmp.NoneTotal
import Derived.Shelf.SlicesG.Cmp
import Derived.Shelf.SlicesG.CompactS
import Derived.Shelf.SlicesG.Delete
import Derived.Shelf.SortM.Plain
import Derived.Shelf.SortM.SortNone
import Derived.Shelf.SlLaysM
import Derived.Shelf.SlLaysF
import Derived.Shelf.SlLaysF0
import Derived.Shelf.SlLaysN
import Derived.Shelf.SlGeneric
import Derived.Ground.SlgmProg
import Derived.Ground.SlgnProg
import Derived.Ground.SlsfProg
import Derived.Test.YtcmocioniaggoaaGreatDoorProg
import Derived.Test.YtcmocioniaggoaaGreatDoorWc
import Derived.WalkKit
import Derived.Lib.RowBridge
open Go.Proofs.Tryz
set_option linter.unusedSimpArgs false
set_option linter.unusedVariables false
namespace Go.Proofs.Tz
open Go.Vw Go.RowKit Go.Proofs
def parentU (s : Str) : Str × Bool := match normU s with
  | some (p :: l) => ((formatU l).1, true)
  | _ => ([], false)
def sufB (l m : List Pair) : Bool := decide (m.length ≤ l.length) && decide (l.drop (l.length - m.length) = m)
theorem sufB_iff {l m : List Pair} : sufB l m = true ↔ m <:+ l := by
  simp only [sufB, Bool.and_eq_true, decide_eq_true_eq]; constructor
  · rintro ⟨_, h⟩; rw [← h]; exact List.drop_suffix _ _
  · intro h; refine ⟨h.length_le, ?_⟩; obtain ⟨t, rfl⟩ := h; simp
def rebaseU (s fr to : Str) : Str × Int := match normU s, normU fr, normU to with
  | some l, some m, some n => if sufB l m = true then formatU (l.take (l.length - m.length) ++ n) else ([], 6)
  | _, _, _ => ([], 4)
def ordS (a b : Str) : Int := if a < b then -1 else if b < a then 1 else 0
theorem ordS_zero {a b : Str} : ordS a b = 0 ↔ a = b := by
  unfold ordS; constructor
  · intro h; split at h
    · cases h
    · split at h
      · cases h
      · rename_i h1 h2; exact s_tri h1 h2
  · rintro rfl; simp [s_irr]
theorem ordS_neg {a b : Str} : ordS a b < 0 ↔ a < b := by
  unfold ordS; split
  · rename_i h; simp [h]
  · rename_i h
    simp only [h, iff_false]; split <;> omega
theorem ordS_self (a : Str) : ordS a a = 0 := ordS_zero.2 rfl
theorem ordS_swap (a b : Str) : ordS b a = - ordS a b := by
  unfold ordS; by_cases h1 : a < b
  · have h2 : ¬ b < a := fun h => s_irr _ (s_trans h1 h)
    simp [h1, h2]
  · by_cases h2 : b < a
    · simp [h1, h2]
    · simp [h1, h2]
def cmpP (p q : Pair) : Int := if ordS p.1 q.1 = 0 then ordS p.2 q.2 else ordS p.1 q.1
theorem cmpP_zero {p q : Pair} : cmpP p q = 0 ↔ p = q := by
  unfold cmpP; split
  · rename_i h
    rw [ordS_zero] at h ⊢; obtain ⟨a, b⟩ := p; obtain ⟨c, d⟩ := q; simp only at h; simp [h]
  · rename_i h
    constructor
    · intro h2; exact absurd h2 h
    · rintro rfl; exact absurd (ordS_self _) h
theorem cmpP_swap (p q : Pair) : cmpP q p = - cmpP p q := by
  unfold cmpP; rw [ordS_swap p.1 q.1]; by_cases h : ordS p.1 q.1 = 0
  · simp [h, ordS_swap p.2 q.2]
  · have h' : ¬ (- ordS p.1 q.1 = 0) := (by omega); rw [if_neg h, if_neg h']
def ltP (p q : Pair) : Prop := p.1 < q.1 ∨ (p.1 = q.1 ∧ p.2 < q.2)
theorem cmpP_neg {p q : Pair} : cmpP p q < 0 ↔ ltP p q := by
  unfold cmpP ltP; by_cases h : ordS p.1 q.1 = 0
  · rw [if_pos h, ordS_neg]; rw [ordS_zero] at h; constructor
    · intro h2; exact .inr ⟨h, h2⟩
    · rintro (h2 | h2)
      · rw [h] at h2; exact absurd h2 (s_irr _)
      · exact h2.2
  · rw [if_neg h, ordS_neg]; constructor
    · exact .inl
    · rintro (h2 | h2)
      · exact h2
      · exact absurd (ordS_zero.2 h2.1) h
theorem ltP_trans {p q r : Pair} (h1 : ltP p q) (h2 : ltP q r) : ltP p r := by
  rcases h1 with h1 | ⟨e1, h1⟩ <;> rcases h2 with h2 | ⟨e2, h2⟩
  · exact .inl (s_trans h1 h2)
  · exact .inl (e2 ▸ h1)
  · exact .inl (e1 ▸ h2)
  · exact .inr ⟨e1.trans e2, s_trans h1 h2⟩
def cmpL : List Pair → List Pair → Int
  | [], [] => 0
  | [], _ :: _ => -1
  | _ :: _, [] => 1
  | p :: l, q :: m => if cmpP p q = 0 then cmpL l m else cmpP p q
theorem cmpL_zero : ∀ {l m : List Pair}, cmpL l m = 0 ↔ l = m
  | [], [] => by simp [cmpL]
  | [], _ :: _ => by simp [cmpL]
  | _ :: _, [] => by simp [cmpL]
  | p :: l, q :: m => by
    simp only [cmpL]; split
    · rename_i h
      rw [cmpL_zero, cmpP_zero.1 h]; simp
    · rename_i h
      constructor
      · intro h2; exact absurd h2 h
      · intro e; simp only [List.cons.injEq] at e; exact absurd (cmpP_zero.2 e.1) h
theorem cmpL_swap : ∀ (l m : List Pair), cmpL m l = - cmpL l m
  | [], [] => by simp [cmpL]
  | [], _ :: _ => by simp [cmpL]
  | _ :: _, [] => by simp [cmpL]
  | p :: l, q :: m => by
    simp only [cmpL]; rw [cmpP_swap p q, cmpL_swap l m]; by_cases h : cmpP p q = 0
    · simp [h]
    · have h' : ¬ (- cmpP p q = 0) := (by omega); rw [if_neg h, if_neg h']
theorem cmpL_trans : ∀ {l m n : List Pair}, cmpL l m < 0 → cmpL m n < 0 → cmpL l n < 0
  | [], [], _, h, _ => by simp [cmpL] at h
  | [], _ :: _, [], _, h => by simp [cmpL] at h
  | [], _ :: _, _ :: _, _, _ => by simp [cmpL]
  | _ :: _, [], _, h, _ => by simp [cmpL] at h
  | _ :: _, _ :: _, [], _, h => by simp [cmpL] at h
  | p :: l, q :: m, r :: n, h1, h2 => by
    simp only [cmpL] at h1 h2 ⊢; by_cases e1 : cmpP p q = 0
    · have e1' := cmpP_zero.1 e1; subst e1'; rw [if_pos e1] at h1; by_cases e2 : cmpP p r = 0
      · rw [if_pos e2] at h2 ⊢; exact cmpL_trans h1 h2
      · rw [if_neg e2] at h2 ⊢; exact h2
    · rw [if_neg e1] at h1; by_cases e2 : cmpP q r = 0
      · have e2' := cmpP_zero.1 e2; subst e2'; rw [if_neg e1]; exact h1
      · rw [if_neg e2] at h2; have h3 := cmpP_neg.2 (ltP_trans (cmpP_neg.1 h1) (cmpP_neg.1 h2)); have : cmpP p r ≠ 0 := (by omega); rw [if_neg this]; exact h3
def cmpN (a b : Str) : Int := match normU a, normU b with
  | some l, some m => cmpL l.reverse m.reverse
  | some _, none => -1
  | none, some _ => 1
  | none, none => ordS a b
theorem cmpN_zero {a b : Str} : cmpN a b = 0 ↔ a = b := by
  unfold cmpN; split
  · rename_i l m h1 h2
    rw [cmpL_zero]; constructor
    · intro h; have : l = m := by simpa using congrArg List.reverse h
      subst this; exact normU_inj h1 h2
    · rintro rfl; rw [h1] at h2; simp only [Option.some.injEq] at h2; rw [h2]
  · rename_i h1 h2
    simp only [Int.reduceNeg, Int.neg_eq_zero, Int.one_ne_zero, false_iff]; rintro rfl; rw [h1] at h2; cases h2
  · rename_i h1 h2
    simp only [Int.one_ne_zero, false_iff]; rintro rfl; rw [h1] at h2; cases h2
  · exact ordS_zero
theorem cmpN_swap (a b : Str) : cmpN b a = - cmpN a b := by
  unfold cmpN; cases normU a <;> cases normU b <;> simp only [Int.neg_neg]
  · exact ordS_swap a b
  · exact cmpL_swap _ _
theorem cmpN_trans {a b c : Str} (h1 : cmpN a b < 0) (h2 : cmpN b c < 0) : cmpN a c < 0 := by
  unfold cmpN at *; cases ha : normU a <;> cases hb : normU b <;> cases hc : normU c <;> simp only [ha, hb, hc] at h1 h2 ⊢ <;> try omega
  · exact ordS_neg.2 (s_trans (ordS_neg.1 h1) (ordS_neg.1 h2))
  · exact cmpL_trans h1 h2
theorem cmpN_self (a : Str) : cmpN a a = 0 := cmpN_zero.2 rfl
def NS (l : List Str) : Prop := l.Pairwise fun a b => cmpN a b < 0
theorem NS.nodup {l : List Str} (h : NS l) : l.Nodup := List.Pairwise.imp (R := fun a b : Str => cmpN a b < 0) (S := fun a b : Str => a ≠ b) (fun {a b} hab e => by subst e; rw [cmpN_self] at hab; omega) h
theorem NS_ext {a b : List Str} (ha : NS a) (hb : NS b) (h : ∀ x, x ∈ a ↔ x ∈ b) : a = b := by
  have hp : a.Perm b := (List.perm_ext_iff_of_nodup ha.nodup hb.nodup).2 h; refine hp.eq_of_pairwise (fun x y _ _ h1 h2 => ?_) ha hb; have := cmpN_trans h1 h2; rw [cmpN_self] at this; omega
set_option maxRecDepth 100000
set_option maxHeartbeats 4000000
theorem u8_eq (a b : UInt8) : ((a.toNat : Int) = (b.toNat : Int)) ↔ a = b := by
  constructor
  · intro h; have : a.toNat = b.toNat := (by omega); exact UInt8.toNat_inj.1 this
  · rintro rfl; rfl
theorem specB_eq (c : UInt8) : specB c = (decide ((c.toNat : Int) = 44) || decide ((c.toNat : Int) = 61) || decide ((c.toNat : Int) = 43) || decide ((c.toNat : Int) = 92)) := by
  have h := fun k (hk : k < 256) => u8_int c k hk
  have h1 := h 44 (by omega); have h2 := h 61 (by omega); have h3 := h 43 (by omega); have h4 := h 92 (by omega); simp only [specB]; congr 1
  · congr 1
    · congr 1
      · exact decide_eq_decide.2 h1.symm
      · exact decide_eq_decide.2 h2.symm
    · exact decide_eq_decide.2 h3.symm
  · exact decide_eq_decide.2 h4.symm
theorem nspecial_fn (c : UInt8) : Ctr prog 161 [.d (u8 c)] (.d (.bool (specB c))) := by
  refine fv (fun _ => false) func161 (by kernel_rfl) rfl rfl rfl rfl rfl ?_; rw [specB_eq]; by_cases h1 : (c.toNat : Int) = 44 <;> by_cases h2 : (c.toNat : Int) = 61 <;> by_cases h3 : (c.toNat : Int) = 43 <;> simp -implicitDefEqProofs [u8, h1, h2, h3]
theorem nspecialR_fn (c : UInt8) : Ctr prog 129 [.d (u8 c)] (.d (.bool (specB c))) := by
  refine fv (fun _ => false) func129 (by kernel_rfl) rfl rfl rfl rfl rfl ?_; rw [specB_eq]; by_cases h1 : (c.toNat : Int) = 44 <;> by_cases h2 : (c.toNat : Int) = 61 <;> by_cases h3 : (c.toNat : Int) = 43 <;> simp -implicitDefEqProofs [u8, h1, h2, h3]
theorem nextU_drop {c : UInt8} {s : Str} {k : Nat} (h : k < s.length) : nextU c (s.drop k) = if s[k] = c then 0 else if s[k] = 92 then (if k + 1 < s.length then 2 + nextU c (s.drop (k + 2)) else 1) else 1 + nextU c (s.drop (k + 1)) := by
  rw [drop_c h]; by_cases h2 : k + 1 < s.length
  · rw [drop_c h2, nextU]; simp only [if_pos h2]
  · have e : s.drop (k + 1) = [] := List.drop_eq_nil_of_le (by omega); rw [e, nextU]; simp only [if_neg h2, nextU]; by_cases h3 : s[k] = 92 <;> simp [h3]
def indexU (c : UInt8) (s : Str) : Int := if nextU c s < s.length then (nextU c s : Int) else -1
def NxI (c : UInt8) (s : Str) (k : Nat) : Prop := (k ≤ s.length → nextU c s = k + nextU c (s.drop k)) ∧ (s.length < k → nextU c s = s.length)
theorem NxI.zero (c : UInt8) (s : Str) : NxI c s 0 := ⟨fun _ => by simp, fun h => by omega⟩
theorem NxI.hit {c : UInt8} {s : Str} {k : Nat} (h : NxI c s k) (hk : k < s.length) (e : s[k] = c) : nextU c s = k := by
  rw [h.1 (by omega), nextU_drop hk, if_pos e]; rfl
theorem NxI.one {c : UInt8} {s : Str} {k : Nat} (h : NxI c s k) (hk : k < s.length) (e : s[k] ≠ c) (e2 : s[k] ≠ 92) : NxI c s (k + 1) := by
  refine ⟨fun _ => ?_, fun h => by omega⟩; rw [h.1 (by omega), nextU_drop hk, if_neg e, if_neg e2]; omega
theorem NxI.two {c : UInt8} {s : Str} {k : Nat} (h : NxI c s k) (hk : k < s.length) (e : s[k] ≠ c) (e2 : s[k] = 92) : NxI c s (k + 2) := by
  have h1 := h.1 (by omega); rw [nextU_drop hk, if_neg e, if_pos e2] at h1; refine ⟨fun h2 => ?_, fun h2 => ?_⟩
  · rw [h1, if_pos (by omega)]; omega
  · rw [h1, if_neg (by omega)]; omega
theorem NxI.over {c : UInt8} {s : Str} {k : Nat} (h : NxI c s k) (hk : ¬ k < s.length) : nextU c s = s.length := by
  by_cases e : k = s.length
  · rw [h.1 (by omega), e]; simp [nextU]
  · exact h.2 (by omega)
theorem nindex_fn (s : Str) (c : UInt8) (hs : List.length s < 1000000) : Ctr prog 215 [.d (.str s), .d (u8 c)] (.d (.int .i64 (indexU c s))) := by
  refine fv (fun _ => false) func215 (by kernel_rfl) rfl rfl rfl rfl rfl ?_; simp -implicitDefEqProofs [u8]; refine loopN (List.length s + 1) (fun k τ => τ 0 = .d (.str s) ∧ τ 1 = .d (.int .u8 c.toNat) ∧ τ 5 = .d (.int .i64 k) ∧ NxI c s k) ⟨by simp, by simp, by simp, .zero c s⟩ ?_; rintro k τ hk ⟨h0, h1, h5, hI⟩; by_cases hlt : k < List.length s
  · by_cases h2 : s[k] = c
    · have h2' : (s[k].toNat : Int) = c.toNat := (u8_eq _ _).2 h2; have hn := hI.hit hlt h2; simp -implicitDefEqProofs [h0, h1, h5, hlt, h2']; rw [indexU, hn, if_pos hlt]
    · have h2' : ¬ (s[k].toNat : Int) = c.toNat := fun e => h2 ((u8_eq _ _).1 e)
      by_cases h3 : s[k] = 92
      · have h3' : (s[k].toNat : Int) = 92 := (u8_int s[k] 92 (by omega)).2 h3; have h9 : ¬ (92 : Int) = c.toNat := by rw [← h3']; exact h2'
        simp -implicitDefEqProofs [h0, h1, h5, hlt, h2', h3', h9]; (repeat refine ai (by omega) ?_); exact again' (k' := k + 2) (by omega) (by omega) ⟨by simp [h0], by simp [h1], by simp; omega, hI.two hlt h2 h3⟩
      · have h3' : ¬ (s[k].toNat : Int) = 92 := fun e => h3 ((u8_int s[k] 92 (by omega)).1 e)
        simp -implicitDefEqProofs [h0, h1, h5, hlt, h2', h3']; (repeat refine ai (by omega) ?_); exact again (by omega) ⟨by simp [h0], by simp [h1], by simp, hI.one hlt h2 h3⟩
  · have hn := hI.over hlt; have hlt' : ¬ (k : Int) < (List.length s : Int) := (by omega); simp -implicitDefEqProofs [h0, h1, h5, hlt']; rw [indexU, hn, if_neg (by omega)]
theorem nnext_fn (s : Str) (c : UInt8) (hs : List.length s < 1000000) : Ctr prog 126 [.d (.str s), .d (u8 c)] (.d (.int .i64 (nextU c s))) := by
  refine fv (fun _ => false) func126 (by kernel_rfl) rfl rfl rfl rfl rfl ?_; simp -implicitDefEqProofs [u8]; refine loopN (List.length s + 1) (fun k τ => τ 0 = .d (.str s) ∧ τ 1 = .d (.int .u8 c.toNat) ∧ τ 5 = .d (.int .i64 k) ∧ NxI c s k) ⟨by simp, by simp, by simp, .zero c s⟩ ?_; rintro k τ hk ⟨h0, h1, h5, hI⟩; by_cases hlt : k < List.length s
  · by_cases h2 : s[k] = c
    · have h2' : (s[k].toNat : Int) = c.toNat := (u8_eq _ _).2 h2; have hn := hI.hit hlt h2; simp -implicitDefEqProofs [h0, h1, h5, hlt, h2', hn]
    · have h2' : ¬ (s[k].toNat : Int) = c.toNat := fun e => h2 ((u8_eq _ _).1 e)
      by_cases h3 : s[k] = 92
      · have h3' : (s[k].toNat : Int) = 92 := (u8_int s[k] 92 (by omega)).2 h3; have h9 : ¬ (92 : Int) = c.toNat := by rw [← h3']; exact h2'
        simp -implicitDefEqProofs [h0, h1, h5, hlt, h2', h3', h9]; (repeat refine ai (by omega) ?_); exact again' (k' := k + 2) (by omega) (by omega) ⟨by simp [h0], by simp [h1], by simp; omega, hI.two hlt h2 h3⟩
      · have h3' : ¬ (s[k].toNat : Int) = 92 := fun e => h3 ((u8_int s[k] 92 (by omega)).1 e)
        simp -implicitDefEqProofs [h0, h1, h5, hlt, h2', h3']; (repeat refine ai (by omega) ?_); exact again (by omega) ⟨by simp [h0], by simp [h1], by simp, hI.one hlt h2 h3⟩
  · have hn := hI.over hlt; have hlt' : ¬ (k : Int) < (List.length s : Int) := (by omega); simp -implicitDefEqProofs [h0, h1, h5, hlt', hn]
def PcI (s : Str) (m : Nat) (τ : St) : Prop := ∃ (rest : Str) (out : List Str), m = List.length rest ∧ τ 0 = .d (.str rest) ∧ τ 3 = .own true 9 (out.map .str) ∧ List.length rest ≤ List.length s ∧ out.length + List.length rest ≤ List.length s ∧ piecesU s = out ++ piecesU rest
theorem npieces_fn (s : Str) (hs : List.length s < 1000000) : Ctr prog 191 [.d (.str s)] (.own true 9 ((piecesU s).map .str)) := by
  refine fv (fun i => decide (i < 1000000)) func191 (by kernel_rfl) rfl rfl rfl rfl rfl ?_; simp -implicitDefEqProofs; refine loopK (PcI s) (List.length s) ⟨s, [], rfl, by simp, by simp, by omega, by simp, by simp⟩ ?_; rintro m τ ⟨rest, out, rfl, h0, h3, hr, ho, hp⟩; simp -implicitDefEqProofs [h0, h3]; refine callK (nindex_fn rest 44 (by omega)) ?_; by_cases hlt : nextU 44 rest < rest.length
  · have hx : indexU 44 rest = (nextU 44 rest : Int) := by rw [indexU, if_pos hlt]
    have hp2 := piecesU_at hlt; generalize hj : nextU 44 rest = j at *; have i0 : ¬ (j : Int) < 0 := (by omega); have i1 : (0 : Int) ≤ (j : Int) + 1 := (by omega); have j1 : ((j : Int) + 1).toNat = j + 1 := (by omega); simp -implicitDefEqProofs [h0, h3, hx, i0, i1, j1]; (repeat refine ai (by omega) ?_); refine ⟨List.length (rest.drop (j + 1)), by simp; omega, rest.drop (j + 1), out ++ [rest.take j], rfl, ?_, by simp, by simp; omega, by simp; omega, by rw [hp, hp2]; simp⟩; simp; exact ttl (by simp)
  · have hx : indexU 44 rest = -1 := by rw [indexU, if_neg hlt]
    simp -implicitDefEqProofs [h0, h3, hx]; (repeat refine ai (by omega) ?_); rw [hp, piecesU_end hlt]; simp
theorem trimRB_cons (c x : UInt8) (s : Str) : trimRB c (x :: s) = if trimRB c s = [] then (if x = c then [] else [x]) else x :: trimRB c s := by
  by_cases h : trimRB c s = []
  · have h' : List.dropWhile (fun x => decide (x = c)) s.reverse = [] := by simpa [trimRB] using h
    rw [if_pos h, trimRB, List.reverse_cons, List.dropWhile_append, h']; by_cases hx : x = c <;> simp [hx]
  · have h' : ¬ List.dropWhile (fun x => decide (x = c)) s.reverse = [] := fun e => h (by rw [trimRB, e]; rfl)
    have h2 : (List.dropWhile (fun x => decide (x = c)) s.reverse).isEmpty = false := by
      cases hq : List.dropWhile (fun x => decide (x = c)) s.reverse with
      | nil => exact absurd hq h'
      | cons a b => rfl
    rw [if_neg h, trimRB, List.reverse_cons, List.dropWhile_append, h2]; simp [trimRB]
theorem trimB_head {s : Str} : trimB (32 :: s) = trimB s := by
  rw [trimB, trimRB_cons, trimB]; by_cases h : trimRB 32 s = []
  · rw [if_pos h, h]; rfl
  · rw [if_neg h, trimLB, List.dropWhile_cons]; rfl
theorem trimB_last {s : Str} (h : 0 < List.length s) (e : s[List.length s - 1] = 32) : trimB s = trimB (s.take (List.length s - 1)) := by
  rw [trimB, trimRB_last h, if_pos e, trimB]
theorem trimB_id {s : Str} (h : s.head? ≠ some 32) (h2 : ∀ (hl : 0 < List.length s), s[List.length s - 1] ≠ 32) : trimB s = s := by
  by_cases hl : 0 < List.length s
  · rw [trimB, trimRB_last hl, if_neg (h2 hl), trimLB]; cases s with
    | nil => rfl
    | cons x s =>
      rw [List.dropWhile_cons, if_neg]; intro hx; exact h (by simpa using hx)
  · obtain rfl : s = [] := List.eq_nil_of_length_eq_zero (by omega); rfl
def Tm1 (s : Str) (n : Nat) (τ : St) : Prop := ∃ t : Str, n = t.length ∧ τ 0 = .d (.str t) ∧ List.length t < 1000000 ∧ trimB s = trimB t
def Tm2 (s : Str) (n : Nat) (τ : St) : Prop := ∃ t : Str, n = t.length ∧ τ 0 = .d (.str t) ∧ List.length t < 1000000 ∧ trimB s = trimB t ∧ t.head? ≠ some 32
theorem trimRf_fn (s : Str) (hs : List.length s < 1000000) : Ctr prog 180 [.d (.str s)] (.d (.str (trimB s))) := by
  refine fv (fun _ => false) func180 (by kernel_rfl) rfl rfl rfl rfl rfl ?_; simp -implicitDefEqProofs; refine loopK (Tm1 s) s.length ⟨s, rfl, by simp, hs, rfl⟩ ?_; rintro n τ ⟨t, rfl, h0, hl, ht⟩; have second : ∀ (t : Str) (τ : St), τ 0 = .d (.str t) → List.length t < 1000000 → trimB s = trimB t → t.head? ≠ some 32 → ∃ (m : Nat), Tm2 s m τ := fun t τ h0 hl ht hh => ⟨_, t, rfl, h0, hl, ht, hh⟩
  cases t with
  | nil =>
    simp -implicitDefEqProofs [h0]; refine loopK (Tm2 s) 0 ⟨[], rfl, by simp [h0], by simp, ht, by simp⟩ ?_; rintro n τ ⟨t, rfl, h0, hl, ht, hh⟩; by_cases hpos : 0 < List.length t
    · have hi : 0 ≤ (List.length t : Int) - 1 := (by omega); have hi2 : ((List.length t : Int) - 1).toNat = List.length t - 1 := (by omega); have hi3 : List.length t - 1 < List.length t := (by omega); have hi6 : 1 ≤ (List.length t : Int) := (by omega); have hz : ¬ t = [] := fun e => by subst e; simp at hpos
      by_cases hx : t[List.length t - 1] = 32
      · have hx' : (t[List.length t - 1].toNat : Int) = 32 := (u8_int _ 32 (by omega)).2 hx; have e := trimB_last hpos hx; simp -implicitDefEqProofs [h0, hpos, hi, hi2, hi3, hi6, hx', hz]; (repeat refine ai (by omega) ?_); refine ⟨List.length t - 1, by omega, t.take (List.length t - 1), by rw [List.length_take]; omega, by simp, by rw [List.length_take]; omega, by rw [ht, e], ?_⟩; cases t with
        | nil => simp
        | cons x t =>
          cases t with
          | nil => simp
          | cons y t => simpa using hh
      · have hx' : ¬ (t[List.length t - 1].toNat : Int) = 32 := fun e => hx ((u8_int _ 32 (by omega)).1 e)
        have e := trimB_id hh (fun _ => hx); simp -implicitDefEqProofs [h0, hpos, hi, hi2, hi3, hi6, hx', hz]; (repeat refine ai (by omega) ?_); rw [ht, e]
    · obtain rfl : t = [] := List.eq_nil_of_length_eq_zero (by omega); simp -implicitDefEqProofs [h0]; rw [ht]; rfl
  | cons x t =>
    by_cases hx : x = 32
    · subst hx; have e := trimB_head (s := t); simp -implicitDefEqProofs [h0]; exact ⟨_, by omega, t, rfl, by simp, by simp at hl; omega, by rw [ht, e]⟩
    · have hx' : ¬ (x.toNat : Int) = 32 := fun e => hx ((u8_int _ 32 (by omega)).1 e)
      have hh : (x :: t).head? ≠ some 32 := (by simpa using hx); simp -implicitDefEqProofs [h0, hx']; generalize hq : x :: t = q at *; refine loopK (Tm2 s) q.length ⟨q, rfl, by simp [h0], hl, ht, hh⟩ ?_; clear hq hh ht hl h0; rintro n τ ⟨t, rfl, h0, hl, ht, hh⟩; by_cases hpos : 0 < List.length t
      · have hi : 0 ≤ (List.length t : Int) - 1 := (by omega); have hi2 : ((List.length t : Int) - 1).toNat = List.length t - 1 := (by omega); have hi3 : List.length t - 1 < List.length t := (by omega); have hi6 : 1 ≤ (List.length t : Int) := (by omega); have hz : ¬ t = [] := fun e => by subst e; simp at hpos
        by_cases hx : t[List.length t - 1] = 32
        · have hx' : (t[List.length t - 1].toNat : Int) = 32 := (u8_int _ 32 (by omega)).2 hx; have e := trimB_last hpos hx; simp -implicitDefEqProofs [h0, hpos, hi, hi2, hi3, hi6, hx', hz]; (repeat refine ai (by omega) ?_); refine ⟨List.length t - 1, by omega, t.take (List.length t - 1), by rw [List.length_take]; omega, by simp, by rw [List.length_take]; omega, by rw [ht, e], ?_⟩; cases t with
          | nil => simp
          | cons x t =>
            cases t with
            | nil => simp
            | cons y t => simpa using hh
        · have hx' : ¬ (t[List.length t - 1].toNat : Int) = 32 := fun e => hx ((u8_int _ 32 (by omega)).1 e)
          have e := trimB_id hh (fun _ => hx); simp -implicitDefEqProofs [h0, hpos, hi, hi2, hi3, hi6, hx', hz]; (repeat refine ai (by omega) ?_); rw [ht, e]
      · obtain rfl : t = [] := List.eq_nil_of_length_eq_zero (by omega); simp -implicitDefEqProofs [h0]; rw [ht]; rfl
theorem trimB_len (s : Str) : (trimB s).length ≤ s.length := by
  have h1 : (trimLB 32 (trimRB 32 s)).length ≤ (trimRB 32 s).length := (List.dropWhile_sublist _).length_le; have h2 : (trimRB 32 s).length ≤ s.length := by
    rw [trimRB, List.length_reverse]; have := (List.dropWhile_sublist (l := s.reverse) fun x => decide (x = 32)).length_le; simpa using this
  rw [trimB]; omega
theorem trimLB_head (s : Str) : (trimLB 32 s).head? ≠ some 32 := by
  induction s with
  | nil => simp [trimLB]
  | cons x s ih =>
    rw [trimLB, List.dropWhile_cons]; by_cases hx : x = 32
    · rw [if_pos (by simp [hx])]; exact ih
    · rw [if_neg (by simp [hx])]; simpa using hx
theorem lowc_sp (c : UInt8) : lowc c = 32 ↔ c = 32 := by
  constructor
  · intro h; by_cases h1 : 65 ≤ (c.toNat : Int) ∧ (c.toNat : Int) ≤ 90
    · have := lowc_toNat c h1.1 h1.2; rw [h] at this; have h3 : ((32 : UInt8).toNat : Int) = 32 := rfl; omega
    · rw [lowc, if_neg h1] at h; exact h
  · rintro rfl; decide
theorem low_head {s : Str} (h : (lower (trimB s)).head? = some 32) : False := by
  have := trimLB_head (trimRB 32 s); rw [← trimB] at this; cases hq : trimB s with
  | nil => rw [hq] at h; simp [lower] at h
  | cons x t =>
    rw [hq] at h this; simp only [lower, List.map_cons, List.head?_cons, Option.some.injEq] at h; exact this (by simp [(lowc_sp x).1 h])
theorem sqz_snoc : ∀ (a : Str) (p x : UInt8), sqz p (a ++ [x]) = sqz p a ++ (if x = 32 ∧ a.getLast?.getD p = 32 then [] else [x])
  | [], p, x => by by_cases h : x = 32 ∧ p = 32 <;> simp [sqz, h]
  | y :: a, p, x => by
    have ih1 := sqz_snoc a y x; have ih2 := sqz_snoc a p x; have hl : (y :: a).getLast?.getD p = a.getLast?.getD y := by rw [List.getLast?_cons]; rfl
    rw [hl]; simp only [List.cons_append, sqz]; by_cases h : y = 32 ∧ p = 32
    · obtain ⟨rfl, rfl⟩ := h; simp only [and_self, if_true]; exact ih1
    · rw [if_neg h, if_neg h, ih1]; rfl
theorem sqz_len : ∀ (a : Str) (p : UInt8), (sqz p a).length ≤ a.length
  | [], _ => by simp [sqz]
  | y :: a, p => by
    have h1 := sqz_len a p; have h2 := sqz_len a y; simp only [sqz]; split <;> simp <;> omega
theorem foldS_len (s : Str) : (foldS s).length ≤ s.length := by
  have h1 := sqz_len (lower (trimB s)) 0; rw [lower_len] at h1; have := trimB_len s; rw [foldS]; omega
theorem getLast_take {t : Str} {k : Nat} (h : k ≤ t.length) (h0 : 0 < k) (p : UInt8) : (t.take k).getLast?.getD p = t[k - 1]'(by omega) := by
  rw [List.getLast?_eq_getElem?, List.length_take, Nat.min_eq_left h, List.getElem?_take, if_pos (by omega), List.getElem?_eq_getElem (by omega)]; rfl
theorem sqz_take {t : Str} {k : Nat} (h : k < t.length) (hh : t.head? ≠ some 32) : sqz 0 (t.take (k + 1)) = sqz 0 (t.take k) ++ (if t[k] = 32 ∧ (∀ (h0 : 0 < k), t[k - 1] = 32) then [] else [t[k]]) := by
  rw [take_s h, sqz_snoc]; congr 1
  by_cases h0 : 0 < k
  · rw [getLast_take (by omega) h0]; by_cases h1 : t[k] = 32 ∧ t[k - 1] = 32
    · rw [if_pos h1, if_pos ⟨h1.1, fun _ => h1.2⟩]
    · rw [if_neg h1, if_neg fun e => h1 ⟨e.1, e.2 h0⟩]
  · obtain rfl : k = 0 := by omega
    have h2 : t[0] ≠ 32 := by
      intro e; apply hh
      cases t with
      | nil => simp at h
      | cons x t => simpa using e
    rw [if_neg (fun e => h2 e.1), if_neg (fun e => h2 e.1)]
theorem sqz_take1 {t : Str} {k : Nat} (h : k < t.length) (hh : t.head? ≠ some 32) (e : t[k] ≠ 32) : sqz 0 (t.take (k + 1)) = sqz 0 (t.take k) ++ [t[k]] := by
  rw [sqz_take h hh, if_neg fun q => e q.1]
theorem sqz_take2 {t : Str} {k : Nat} (h : k < t.length) (hh : t.head? ≠ some 32) (h0 : 0 < k) (e : t[k - 1] ≠ 32) : sqz 0 (t.take (k + 1)) = sqz 0 (t.take k) ++ [t[k]] := by
  rw [sqz_take h hh, if_neg fun q => e (q.2 h0)]
theorem sqz_take3 {t : Str} {k : Nat} (h : k < t.length) (hh : t.head? ≠ some 32) (e : t[k] = 32) (h0 : 0 < k) (e2 : t[k - 1] = 32) : sqz 0 (t.take (k + 1)) = sqz 0 (t.take k) := by
  rw [sqz_take h hh, if_pos ⟨e, fun _ => e2⟩, List.append_nil]
theorem ffold_fn (s : Str) (hs : List.length s < 1000000) : Ctr prog 160 [.d (.str s)] (.d (.str (foldS s))) := by
  refine fv (fun _ => false) func160 (by kernel_rfl) rfl rfl rfl rfl rfl ?_; have ht := trimB_len s; have hl : List.length (lower (trimB s)) < 1000000 := by rw [lower_len]; omega
  have hh : (lower (trimB s)).head? ≠ some 32 := fun h => low_head h
  have hf : foldS s = sqz 0 (lower (trimB s)) := rfl; have c2 := foldLower_fn (trimB s) (by omega); simp -implicitDefEqProofs; refine callK (trim_fn s hs) ?_; simp -implicitDefEqProofs; refine callK c2 ?_; clear c2; rw [hf]; generalize lower (trimB s) = t at *; simp -implicitDefEqProofs; refine loopN t.length (fun k τ => τ 3 = .d (.str t) ∧ τ 10 = .d (.int .i64 t.length) ∧ τ 11 = .d (.int .i64 k) ∧ τ 4 = .own false 5 (bytesD (sqz 0 (t.take k)))) ⟨by simp, by simp, by simp, by simp [sqz, bytesD]⟩ ?_; rintro k τ hk ⟨h3, h10, h11, h4⟩; by_cases hlt : k < List.length t
  · have hq := sqz_len (t.take k) 0; rw [List.length_take] at hq; by_cases e1 : t[k] = 32
    · have e1' : (t[k].toNat : Int) = 32 := (u8_int _ 32 (by omega)).2 e1; have h0 : 0 < k := by
        rcases Nat.eq_zero_or_pos k with rfl | h
        · exfalso
          apply hh
          cases t with
          | nil => simp at hlt
          | cons x t => simpa using e1
        · exact h
      have i1 : (0 : Int) ≤ (k : Int) - 1 := (by omega); have j1 : ((k : Int) - 1).toNat = k - 1 := (by omega); have l1 : k - 1 < List.length t := (by omega); by_cases e2 : t[k - 1] = 32
      · have e2' : (t[k - 1].toNat : Int) = 32 := (u8_int _ 32 (by omega)).2 e2; have hs3 := sqz_take3 hlt hh e1 h0 e2; simp -implicitDefEqProofs [h3, h10, h11, h4, hlt, e1', e2', i1, j1, l1]; (repeat refine ai (by omega) ?_); refine again hlt ⟨by simp [h3], by simp [h10], by simp, by simp [hs3, h4]⟩
      · have e2' : ¬ (t[k - 1].toNat : Int) = 32 := fun e => e2 ((u8_int _ 32 (by omega)).1 e)
        have hs3 := sqz_take2 hlt hh h0 e2; simp -implicitDefEqProofs [h3, h10, h11, h4, hlt, e1', e2', i1, j1, l1]; (repeat refine And.intro (by first | omega | (simp [bytesD]; omega)) ?_); refine again hlt ⟨by simp [h3], by simp [h10], by simp, by simp [hs3, bytesD, e1']⟩
    · have e1' : ¬ (t[k].toNat : Int) = 32 := fun e => e1 ((u8_int _ 32 (by omega)).1 e)
      have hs3 := sqz_take1 hlt hh e1; simp -implicitDefEqProofs [h3, h10, h11, h4, hlt, e1']; (repeat refine And.intro (by first | omega | (simp [bytesD]; omega)) ?_); refine again hlt ⟨by simp [h3], by simp [h10], by simp, by simp [hs3, bytesD]⟩
  · rw [ttl (by omega)] at h4; simp -implicitDefEqProofs [h3, h10, h11, h4, hlt]
theorem ffoldR_fn (s : Str) (hs : List.length s < 1000000) : Ctr prog 128 [.d (.str s)] (.d (.str (foldS s))) := by
  refine fv (fun _ => false) func128 (by kernel_rfl) rfl rfl rfl rfl rfl ?_; have ht := trimB_len s; have hl : List.length (lower (trimB s)) < 1000000 := by rw [lower_len]; omega
  have hh : (lower (trimB s)).head? ≠ some 32 := fun h => low_head h
  have hf : foldS s = sqz 0 (lower (trimB s)) := rfl; have c2 := lower_fn (trimB s) (by omega); simp -implicitDefEqProofs; refine callK (trimRf_fn s hs) ?_; simp -implicitDefEqProofs; refine callK c2 ?_; clear c2; rw [hf]; generalize lower (trimB s) = t at *; simp -implicitDefEqProofs; refine loopN t.length (fun k τ => τ 3 = .d (.str t) ∧ τ 5 = .d (.int .i64 k) ∧ τ 4 = .own false 5 (bytesD (sqz 0 (t.take k)))) ⟨by simp, by simp, by simp [sqz, bytesD]⟩ ?_; rintro k τ hk ⟨h3, h5, h4⟩; by_cases hlt : k < List.length t
  · have hq := sqz_len (t.take k) 0; rw [List.length_take] at hq; rcases Nat.eq_zero_or_pos k with h0 | h0
    · subst h0; cases t with
      | nil => simp at hlt
      | cons x t =>
      have e1 : x ≠ 32 := (by simpa using hh); have e1' : ¬ (x.toNat : Int) = 32 := fun e => e1 ((u8_int _ 32 (by omega)).1 e)
      simp only [List.take_zero, sqz, bytesD, List.map_nil] at h4; simp -implicitDefEqProofs [h3, h5, h4, e1']; refine again hlt ⟨by simp [h3], by simp, by simp [sqz, e1, bytesD]⟩
    · have z0 : ¬ (k : Int) = 0 := (by omega); have z1 : ¬ k = 0 := (by omega); have i1 : (0 : Int) ≤ (k : Int) - 1 := (by omega); have j1 : ((k : Int) - 1).toNat = k - 1 := (by omega); have l1 : k - 1 < List.length t := (by omega); by_cases e1 : t[k] = 32
      · have e1' : (t[k].toNat : Int) = 32 := (u8_int _ 32 (by omega)).2 e1; by_cases e2 : t[k - 1] = 32
        · have e2' : (t[k - 1].toNat : Int) = 32 := (u8_int _ 32 (by omega)).2 e2; have hs3 := sqz_take3 hlt hh e1 h0 e2; simp -implicitDefEqProofs [h3, h5, h4, hlt, e1', e2', i1, j1, l1, z0, z1]; (repeat refine ai (by omega) ?_); refine again hlt ⟨by simp [h3], by simp, by simp [hs3, h4]⟩
        · have e2' : ¬ (t[k - 1].toNat : Int) = 32 := fun e => e2 ((u8_int _ 32 (by omega)).1 e)
          have hs3 := sqz_take2 hlt hh h0 e2; simp -implicitDefEqProofs [h3, h5, h4, hlt, e1', e2', i1, j1, l1, z0, z1]; (repeat refine And.intro (by first | omega | (simp [bytesD]; omega)) ?_); refine again hlt ⟨by simp [h3], by simp, by simp [hs3, bytesD, e1']⟩
      · have e1' : ¬ (t[k].toNat : Int) = 32 := fun e => e1 ((u8_int _ 32 (by omega)).1 e)
        have hs3 := sqz_take1 hlt hh e1; simp -implicitDefEqProofs [h3, h5, h4, hlt, e1', z0, z1]; (repeat refine And.intro (by first | omega | (simp [bytesD]; omega)) ?_); refine again hlt ⟨by simp [h3], by simp, by simp [hs3, bytesD]⟩
  · rw [ttl (by omega)] at h4; simp -implicitDefEqProofs [h3, h5, h4, hlt]
theorem valueU_esc {s : Str} {k : Nat} (h : k + 1 < s.length) (e : s[k] = 92) : valueU (s.drop k) = if specB s[k + 1] = true then (valueU (s.drop (k + 2))).map (s[k + 1] :: ·) else none := by
  rw [drop_c (show k < s.length by omega), drop_c h, valueU, if_pos e]
theorem valueU_end {s : Str} {k : Nat} (h : k < s.length) (h2 : ¬ k + 1 < s.length) (e : s[k] = 92) : valueU (s.drop k) = none := by
  rw [drop_c h, List.drop_eq_nil_of_le (by omega), valueU, if_pos e]
theorem valueU_one {s : Str} {k : Nat} (h : k < s.length) (e : s[k] ≠ 92) : valueU (s.drop k) = if specB s[k] = true then none else (valueU (s.drop (k + 1))).map (s[k] :: ·) := by
  rw [drop_c h]; by_cases h2 : k + 1 < s.length
  · rw [drop_c h2, valueU, if_neg e]
  · rw [List.drop_eq_nil_of_le (by omega)]; simp only [valueU, if_neg e]; rfl
theorem valueR_esc {s : Str} {k : Nat} (h : k + 1 < s.length) (e : s[k] = 92) : valueR (s.drop k) = if specB s[k + 1] = true then (valueR (s.drop (k + 2))).map (s[k + 1] :: ·) else none := by
  rw [drop_c (show k < s.length by omega), drop_c h, valueR, if_pos e]
theorem valueR_end {s : Str} {k : Nat} (h : k < s.length) (h2 : ¬ k + 1 < s.length) (e : s[k] = 92) : valueR (s.drop k) = none := by
  rw [drop_c h, List.drop_eq_nil_of_le (by omega), valueR, if_pos e]
theorem valueR_one {s : Str} {k : Nat} (h : k < s.length) (e : s[k] ≠ 92) : valueR (s.drop k) = if s[k] = 61 ∨ s[k] = 43 then none else (valueR (s.drop (k + 1))).map (s[k] :: ·) := by
  rw [drop_c h]; by_cases h2 : k + 1 < s.length
  · rw [drop_c h2, valueR, if_neg e]
  · rw [List.drop_eq_nil_of_le (by omega)]; simp only [valueR, if_neg e]; rfl
theorem valueU_len : ∀ (n : Nat) (s : Str), s.length ≤ n → ∀ v, valueU s = some v → v.length ≤ s.length
  | _, [], _, v, h => by simp only [valueU, Option.some.injEq] at h; subst h; simp
  | 0, x :: s, hn, _, _ => by simp at hn
  | n + 1, [x], _, v, h => by
    simp only [valueU] at h; split at h
    · cases h
    · split at h
      · cases h
      · simp only [Option.some.injEq] at h; subst h; simp
  | n + 1, x :: y :: r, hn, v, h => by
    simp only [List.length_cons] at hn; simp only [valueU] at h; split at h
    · split at h
      · obtain ⟨w, hw, rfl⟩ := Option.map_eq_some_iff.1 h; have := valueU_len n r (by omega) w hw; simp only [List.length_cons]; omega
      · cases h
    · split at h
      · cases h
      · obtain ⟨w, hw, rfl⟩ := Option.map_eq_some_iff.1 h; have := valueU_len n (y :: r) (by simp only [List.length_cons]; omega) w hw; simp only [List.length_cons] at this ⊢; omega
theorem valueR_len : ∀ (n : Nat) (s : Str), s.length ≤ n → ∀ v, valueR s = some v → v.length ≤ s.length
  | _, [], _, v, h => by simp only [valueR, Option.some.injEq] at h; subst h; simp
  | 0, x :: s, hn, _, _ => by simp at hn
  | n + 1, [x], _, v, h => by
    simp only [valueR] at h; split at h
    · cases h
    · split at h
      · cases h
      · simp only [Option.some.injEq] at h; subst h; simp
  | n + 1, x :: y :: r, hn, v, h => by
    simp only [List.length_cons] at hn; simp only [valueR] at h; split at h
    · split at h
      · obtain ⟨w, hw, rfl⟩ := Option.map_eq_some_iff.1 h; have := valueR_len n r (by omega) w hw; simp only [List.length_cons]; omega
      · cases h
    · split at h
      · cases h
      · obtain ⟨w, hw, rfl⟩ := Option.map_eq_some_iff.1 h; have := valueR_len n (y :: r) (by simp only [List.length_cons]; omega) w hw; simp only [List.length_cons] at this ⊢; omega
def optT (o : Option Str) : Str × Bool := match o with
  | some v => (v, true)
  | none => ([], false)
def VaI (f : Str → Option Str) (s : Str) (k : Nat) (out : Str) : Prop := f s = (f (s.drop k)).map (out ++ ·) ∧ out.length ≤ k
theorem VaI.zero {f : Str → Option Str} (s : Str) : VaI f s 0 [] := ⟨by simp, by simp⟩
theorem VaI.one {f : Str → Option Str} {s : Str} {k j : Nat} {out : Str} {x : UInt8} (h : VaI f s k out) (hj : k < j) (e : f (s.drop k) = (f (s.drop j)).map (x :: ·)) : VaI f s j (out ++ [x]) := by
  refine ⟨?_, ?_⟩
  · rw [h.1, e]; cases f (s.drop j) <;> simp
  · have := h.2; simp; omega
theorem VaI.none {f : Str → Option Str} {s : Str} {k : Nat} {out : Str} (h : VaI f s k out) (e : f (s.drop k) = Option.none) : f s = Option.none := by rw [h.1, e]; rfl
theorem VaI.all {f : Str → Option Str} {s : Str} {k : Nat} {out : Str} (h : VaI f s k out) (hk : ¬ k < s.length) (e : f [] = some []) : f s = some out := by
  rw [h.1, List.drop_eq_nil_of_le (by omega), e]; simp
theorem nvalue_fn (s : Str) (hs : List.length s < 1000000) : Ctr prog 216 [.d (.str s)] (.tup [.d (.str (optT (valueU s)).1), .d (.bool (optT (valueU s)).2)]) := by
  refine fn_of_vwpN (rv := .tmp 2) (rs := [.tmp 3]) (r := .d (.str (optT (valueU s)).1)) (ys := [.d (.bool (optT (valueU s)).2)]) (fun i => i == 1000004 || i == 5000038 || i == 5000039) (by kernel_rfl) func216 (by kernel_rfl) rfl rfl (by simp) (nbl rfl) (by kernel_rfl) rfl rfl ?_; simp -implicitDefEqProofs; refine newK2 1000000 1000001 5 (by simp) (by kernel_rfl) (by simp) (by simp) (fun b => ?_); simp -implicitDefEqProofs; refine loopN (List.length s) (fun k τ => τ 0 = .d (.str s) ∧ τ 5 = .d (.int .i64 k) ∧ τ 4 = .d (.raw (va b)) ∧ ∃ out, VaI valueU s k out ∧ BldAt τ b out) ?_ ?_
  · exact ⟨by simp, by simp, by simp, [], .zero s, .nilp, .slice none 0 0, .inl rfl, by simp [zTX61], by simp [bytesD]⟩
  rintro k τ hk ⟨h0, h5, h4, out, hI, p, hd, hp, hb, hh⟩; have hol := hI.2; by_cases hlt : k < List.length s
  · by_cases h2 : s[k] = 92
    · have h2' : (s[k].toNat : Int) = 92 := (u8_int s[k] 92 (by omega)).2 h2; by_cases h3 : k + 1 < List.length s
      · have e := valueU_esc h3 h2; have ne : ¬ (k : Int) + 1 = (List.length s : Int) := (by omega); have i1 : (0 : Int) ≤ (k : Int) + 1 := (by omega); have j1 : ((k : Int) + 1).toNat = k + 1 := (by omega); by_cases h6 : specB s[k + 1] = true
        · rw [if_pos h6] at e; simp -implicitDefEqProofs [h0, h5, h4, hlt, h2', ne, h3, i1, j1]; (repeat refine ai (by omega) ?_); refine callK (nspecial_fn s[k + 1]) ?_; simp -implicitDefEqProofs [h0, h5, h4, hlt, h2', ne, h3, i1, j1, h6]; refine givB [1000000, 1000001] 1000000 (writeByte_fn (s := out) (hd := hd) hp s[k + 1] (by omega)) (by simp [hb, hh]) rfl (by simp) ?_; rintro r hs' ⟨hd1, rfl⟩; simp -implicitDefEqProofs [h0, h5, h4, hlt, takeH, putH]; (repeat refine ai (by omega) ?_); exact again' (k' := k + 2) (by omega) (by omega) ⟨by simp [h0], by simp; omega, by simp [h4], out ++ [s[k + 1]], hI.one (by omega) e, .raw (va b), hd1, .inr rfl, by simp, by simp⟩
        · rw [if_neg h6] at e; have hn := hI.none e; simp -implicitDefEqProofs [h0, h5, h4, hlt, h2', ne, h3, i1, j1]; (repeat refine ai (by omega) ?_); refine callK (nspecial_fn s[k + 1]) ?_; simp -implicitDefEqProofs [h0, h5, h4, hlt, h2', ne, h3, i1, j1, h6, optT, hn]
      · have hn := hI.none (valueU_end hlt h3 h2); have ne : (k : Int) + 1 = (List.length s : Int) := (by omega); simp -implicitDefEqProofs [h0, h5, h4, hlt, h2', ne, optT, hn]; try omega
    · have h2' : ¬ (s[k].toNat : Int) = 92 := fun e => h2 ((u8_int s[k] 92 (by omega)).1 e)
      have e := valueU_one hlt h2; simp -implicitDefEqProofs [h0, h5, h4, hlt, h2']; refine callK (nspecial_fn s[k]) ?_; by_cases h6 : specB s[k] = true
      · rw [if_pos h6] at e; have hn := hI.none e; simp -implicitDefEqProofs [h0, h5, h4, hlt, h2', h6, optT, hn]
      · rw [if_neg h6] at e; simp -implicitDefEqProofs [h0, h5, h4, hlt, h2', h6]; refine givB [1000000, 1000001] 1000000 (writeByte_fn (s := out) (hd := hd) hp s[k] (by omega)) (by simp [hb, hh]) rfl (by simp) ?_; rintro r hs' ⟨hd1, rfl⟩; simp -implicitDefEqProofs [h0, h5, h4, hlt, takeH, putH]; (repeat refine ai (by omega) ?_); exact again hlt ⟨by simp [h0], by simp, by simp [h4], out ++ [s[k]], hI.one (by omega) e, .raw (va b), hd1, .inr rfl, by simp, by simp⟩
  · have hv := hI.all hlt rfl; simp -implicitDefEqProofs [h0, h5, h4, hlt]; refine givB [1000000, 1000001] 1000000 (string_fn (s := out) (hd := hd) hp) (by simp [hb, hh]) rfl (by simp) ?_; rintro r hs' ⟨rfl, rfl⟩; simp -implicitDefEqProofs [h0, h5, h4, hlt, takeH, putH, optT, hv]
theorem nvalueR_fn (s : Str) (hs : List.length s < 1000000) : Ctr prog 179 [.d (.str s)] (.tup [.d (.str (optT (valueR s)).1), .d (.bool (optT (valueR s)).2)]) := by
  refine fn_of_vwpN (rv := .tmp 2) (rs := [.tmp 3]) (r := .d (.str (optT (valueR s)).1)) (ys := [.d (.bool (optT (valueR s)).2)]) (fun i => false) (by kernel_rfl) func179 (by kernel_rfl) rfl rfl (by simp) (nbl rfl) (by kernel_rfl) rfl rfl ?_; simp -implicitDefEqProofs; refine loopN (List.length s) (fun k τ => τ 0 = .d (.str s) ∧ τ 5 = .d (.int .i64 k) ∧ ∃ out, VaI valueR s k out ∧ τ 4 = .own false 5 (bytesD out)) ?_ ?_
  · exact ⟨by simp, by simp, [], .zero s, by simp [bytesD]⟩
  rintro k τ hk ⟨h0, h5, out, hI, h4⟩; have hol := hI.2; have hbl : (bytesD out).length = out.length := (by simp [bytesD]); by_cases hlt : k < List.length s
  · by_cases h2 : s[k] = 92
    · have h2' : (s[k].toNat : Int) = 92 := (u8_int s[k] 92 (by omega)).2 h2; by_cases h3 : k + 1 < List.length s
      · have e := valueR_esc h3 h2; have ne : ¬ (List.length s : Int) ≤ (k : Int) + 1 := (by omega); have i1 : (0 : Int) ≤ (k : Int) + 1 := (by omega); have j1 : ((k : Int) + 1).toNat = k + 1 := (by omega); by_cases h6 : specB s[k + 1] = true
        · rw [if_pos h6] at e; simp -implicitDefEqProofs [h0, h5, h4, hlt, h2', ne, h3, i1, j1]; (repeat refine ai (by omega) ?_); refine callK (nspecialR_fn s[k + 1]) ?_; simp -implicitDefEqProofs [h0, h5, h4, hlt, h2', ne, h3, i1, j1, h6]; (repeat refine And.intro (by first | omega | (simp [bytesD]; omega)) ?_); exact again' (k' := k + 2) (by omega) (by omega) ⟨by simp [h0], by simp; omega, out ++ [s[k + 1]], hI.one (by omega) e, by simp [bytesD]⟩
        · rw [if_neg h6] at e; have hn := hI.none e; simp -implicitDefEqProofs [h0, h5, h4, hlt, h2', ne, h3, i1, j1]; (repeat refine ai (by omega) ?_); refine callK (nspecialR_fn s[k + 1]) ?_; simp -implicitDefEqProofs [h0, h5, h4, hlt, h2', ne, h3, i1, j1, h6, optT, hn]
      · have hn := hI.none (valueR_end hlt h3 h2); have ne : (List.length s : Int) ≤ (k : Int) + 1 := (by omega); simp -implicitDefEqProofs [h0, h5, h4, hlt, h2', ne, optT, hn]; try omega
    · have h2' : ¬ (s[k].toNat : Int) = 92 := fun e => h2 ((u8_int s[k] 92 (by omega)).1 e)
      have e := valueR_one hlt h2; by_cases h6 : s[k] = 61
      · have h6' : (s[k].toNat : Int) = 61 := (u8_int s[k] 61 (by omega)).2 h6; rw [if_pos (.inl h6)] at e; have hn := hI.none e; simp -implicitDefEqProofs [h0, h5, h4, hlt, h2', h6', optT, hn]
      · have h6' : ¬ (s[k].toNat : Int) = 61 := fun e => h6 ((u8_int s[k] 61 (by omega)).1 e)
        by_cases h7 : s[k] = 43
        · have h7' : (s[k].toNat : Int) = 43 := (u8_int s[k] 43 (by omega)).2 h7; rw [if_pos (.inr h7)] at e; have hn := hI.none e; simp -implicitDefEqProofs [h0, h5, h4, hlt, h2', h6', h7', optT, hn]
        · have h7' : ¬ (s[k].toNat : Int) = 43 := fun e => h7 ((u8_int s[k] 43 (by omega)).1 e)
          rw [if_neg (by simp [h6, h7])] at e; simp -implicitDefEqProofs [h0, h5, h4, hlt, h2', h6', h7']; (repeat refine And.intro (by first | omega | (simp [bytesD]; omega)) ?_); exact again hlt ⟨by simp [h0], by simp, out ++ [s[k]], hI.one (by omega) e, by simp [bytesD]⟩
  · have hv := hI.all hlt rfl; simp -implicitDefEqProofs [h0, h5, h4, hlt, optT, hv]
end Go.Proofs.Tz
namespace Go.Proofs.Tz
open Go.Vw
set_option maxRecDepth 100000
theorem insF_len2 (s : Str) : ∀ (l : List Str) (r : Bool × List Str) (c : Nat), r.2.length ≤ c + r.1.toNat → (l.foldl (insS s) r).2.length ≤ c + l.length + (l.foldl (insS s) r).1.toNat
  | [], _, _, h => h
  | x :: l, (d, out), c, h => by
    have h2 : (insS s (d, out) x).2.length ≤ (c + 1) + (insS s (d, out) x).1.toNat := by
      simp only at h; cases d <;> by_cases hb : Op.bytesLess x s = true <;> by_cases he : x = s <;> simp [insS, hb, he] at h ⊢ <;> first
        | omega
        | (split <;> simp <;> omega)
    have := insF_len2 s l (insS s (d, out) x) (c + 1) h2; simp only [List.foldl_cons, List.length_cons]; omega
theorem ins_len (l : List Str) (s : Str) : (ins l s).length ≤ l.length + 1 := by
  have : (insF s l).2.length ≤ 0 + l.length + (insF s l).1.toNat := insF_len2 s l (false, []) 0 (by simp); simp only [ins, List.length_append]; cases h : (insF s l).1 <;> simp [h] at this ⊢ <;> omega
def namesS (ns : List Str) (a : Att) : List Str := if a.2 = [] then ns else ins ns (lower a.1)
def namesF (l : List Att) : List Str := l.foldl namesS []
def valsS (n : Str) (vs : List Str) (a : Att) : List Str := if lower a.1 = n then a.2.foldl ins vs else vs
def valsF (l : List Att) (n : Str) : List Str := l.foldl (valsS n) []
def sortedL (l : List Att) : List Att := (namesF l).map fun n => (n, valsF l n)
theorem namesF_take {l : List Att} {k : Nat} (h : k < l.length) : namesF (l.take (k + 1)) = namesS (namesF (l.take k)) l[k] := by
  rw [take_s h]; simp only [namesF, List.foldl_append, List.foldl_cons, List.foldl_nil]
theorem valsF_take {l : List Att} {n : Str} {k : Nat} (h : k < l.length) : valsF (l.take (k + 1)) n = valsS n (valsF (l.take k) n) l[k] := by
  rw [take_s h]; simp only [valsF, List.foldl_append, List.foldl_cons, List.foldl_nil]
theorem names_len : ∀ (l : List Att) (ns : List Str), (l.foldl namesS ns).length ≤ ns.length + l.length
  | [], ns => by simp
  | a :: l, ns => by
    have := names_len l (namesS ns a); have h2 : (namesS ns a).length ≤ ns.length + 1 := by
      unfold namesS; split
      · omega
      · exact ins_len _ _
    simp only [List.foldl_cons, List.length_cons]; omega
theorem insAll_len : ∀ (l ns : List Str), (l.foldl ins ns).length ≤ ns.length + l.length
  | [], ns => by simp
  | a :: l, ns => by
    have := insAll_len l (ins ns a); have := ins_len ns a; simp only [List.foldl_cons, List.length_cons]; omega
def total (l : List Att) : Nat := (l.map (·.2.length)).sum
theorem vals_len (n : Str) : ∀ (l : List Att) (vs : List Str), (l.foldl (valsS n) vs).length ≤ vs.length + total l
  | [], vs => by simp [total]
  | a :: l, vs => by
    have := vals_len n l (valsS n vs a); have h2 : (valsS n vs a).length ≤ vs.length + a.2.length := by
      unfold valsS; split
      · exact insAll_len _ _
      · omega
    simp only [List.foldl_cons, total, List.map_cons, List.sum_cons] at this ⊢
    all_goals omega
def Fit2 (l : List Att) : Prop := Fits l ∧ total l < 500000
theorem total_take (l : List Att) (k : Nat) (h : k < l.length) : total (l.take k) + l[k].2.length ≤ total l := by
  have e : total l = total (l.take k) + (l[k].2.length + total (l.drop (k + 1))) := by
    conv => lhs; rw [← List.take_append_drop k l, List.drop_eq_getElem_cons h]
    simp only [total, List.map_append, List.map_cons, List.sum_append, List.sum_cons]
  all_goals omega
def outA (l : List Att) (ns : List Str) (i : Nat) : List D := ((ns.take i).map fun n => (n, valsF l n)).map att
theorem outA_zero (l : List Att) (ns : List Str) : outA l ns 0 = [] := rfl
theorem outA_succ (l : List Att) {ns : List Str} {i : Nat} (h : i < ns.length) : outA l ns (i + 1) = outA l ns i ++ [.agg [.str ns[i], strs (valsF l ns[i])]] := by
  rw [outA, take_s h]; simp only [List.map_append, List.map_cons, List.map_nil]; rfl
theorem outA_len (l : List Att) {ns : List Str} {i : Nat} (h : i ≤ ns.length) : (outA l ns i).length = i := by simp [outA, Nat.min_eq_left h]
theorem outA_all (l : List Att) (i : Nat) (h : (namesF l).length ≤ i) : outA l (namesF l) i = (sortedL l).map att := by rw [outA, ttl h]; rfl
theorem outA_width (l : List Att) (ns : List Str) (i : Nat) : ∀ u ∈ outA l ns i, width u = 2 := by
  intro u hu; simp only [outA, List.map_map, List.mem_map] at hu; obtain ⟨n, _, rfl⟩ := hu; rfl
theorem sortedR_fn (l : List Att) (hl : Fit2 l) : Ctr prog 50 [.d (atts l)] (.own true 89 ((sortedL l).map att)) := by
  refine fv (fun i => i == 5) func50 (by kernel_rfl) rfl rfl rfl rfl rfl ?_; obtain ⟨⟨hl1, hl2⟩, hl3⟩ := hl; simp -implicitDefEqProofs; refine loopN l.length (fun k τ => τ 0 = .d (atts l) ∧ τ 4 = .d (.int .i64 k) ∧ τ 3 = .own false 9 ((namesF (l.take k)).map .str)) (by simp [namesF]) ?_; rintro k τ hk ⟨h0, h4, h3⟩; by_cases hlt : k < l.length
  · have hn := names_len (l.take k) []; rw [List.length_take] at hn; by_cases he : l[k].2 = []
    · simp -implicitDefEqProofs [h0, h4, h3, hlt, atts, att, strs, he]; refine ⟨by omega, again hlt ⟨by simp [h0, atts, att, strs], by simp, ?_⟩⟩; rw [namesF_take hlt]; simp [h3, namesS, he]
    · have he' : 0 < l[k].2.length := List.length_pos_iff.2 he; simp -implicitDefEqProofs [h0, h4, h3, hlt, atts, att, strs, he']; refine callK (lower_fn _ (hl2 _ (gmm hlt)).1) ?_; simp -implicitDefEqProofs [h0, h4, h3, hlt, atts, att, strs, he']; have hf := ins_fn (namesF (l.take k)) (lower l[k].1) (by simp only [List.length_nil] at hn; unfold namesF; omega); simp only [strs] at hf; refine callK hf ?_; simp -implicitDefEqProofs [h0, h4, h3, hlt, atts, att, strs, he']; refine ⟨by omega, again hlt ⟨by simp [h0, atts, att, strs], by simp, ?_⟩⟩; rw [namesF_take hlt]; simp [namesS, he]
  · simp -implicitDefEqProofs [h0, h4, h3, hlt, atts]; rw [ttl (by omega)] at h3; have hn := names_len l []; generalize hN : namesF l = ns at *; rw [show List.foldl namesS [] l = namesF l from rfl, hN] at hn; simp only [List.length_nil, Nat.zero_add] at hn; refine loopN ns.length (fun i τ => τ 0 = .d (atts l) ∧ τ 3 = .own false 9 (ns.map .str) ∧ τ 6 = .d (.int .i64 i) ∧ τ 5 = .own true 89 (outA l ns i)) (by simp [h0, h3, hN, atts, outA_zero]) ?_; clear h0 h3 h4 τ; rintro i τ hi ⟨h0, h3, h6, h5⟩; by_cases hlt2 : i < ns.length
    · simp -implicitDefEqProofs [h0, h3, h5, h6, hlt2, atts, att, strs]; refine loopN l.length (fun k τ => τ 0 = .d (atts l) ∧ τ 3 = .own false 9 (ns.map .str) ∧ τ 6 = .d (.int .i64 i) ∧ τ 5 = .own true 89 (outA l ns i) ∧ τ 8 = .d (.int .i64 k) ∧ τ 7 = .box (.agg [.str ns[i], strs (valsF (l.take k) ns[i])])) (by simp [h0, h3, h5, h6, hN, atts, att, strs, valsF]) ?_; clear h0 h3 h6 h5 τ hk hlt k; rintro k τ hk ⟨h0, h3, h6, h5, h8, h7⟩; by_cases hlt : k < l.length
      · have hv := vals_len ns[i] (l.take k) []; have ht := total_take l k hlt; rw [show (l.take k).foldl (valsS ns[i]) [] = valsF (l.take k) ns[i] from rfl] at hv; have hst := valsF_take (n := ns[i]) hlt; generalize valsF (l.take k) ns[i] = vs at *; simp -implicitDefEqProofs [h0, h3, h5, h6, h7, h8, hlt, hlt2, atts, att, strs]; refine loopN l[k].2.length (fun j τ => τ 0 = .d (atts l) ∧ τ 3 = .own false 9 (ns.map .str) ∧ τ 6 = .d (.int .i64 i) ∧ τ 5 = .own true 89 (outA l ns i) ∧ τ 8 = .d (.int .i64 k) ∧ τ 9 = .d (.int .i64 j) ∧ τ 7 = .box (.agg [.str ns[i], strs (if lower l[k].1 = ns[i] then (l[k].2.take j).foldl ins vs else vs)])) (by simp [h0, h3, h5, h6, h7, h8, atts, att, strs]) ?_; clear h0 h3 h6 h5 h8 h7 τ; rintro j τ hj ⟨h0, h3, h6, h5, h8, h9, h7⟩; have hal := (hl2 _ (gmm hlt)); by_cases hn : lower l[k].1 = ns[i]
        · rw [if_pos hn] at h7; by_cases hlt3 : j < l[k].2.length
          · simp -implicitDefEqProofs [h0, h3, h5, h6, h7, h8, h9, hlt, hlt2, hlt3, atts, att, strs]; refine callP (lower_fn _ hal.1) ?_; simp -implicitDefEqProofs [h0, h3, h5, h6, h7, h8, h9, hlt, hlt2, hlt3, atts, att, strs, hn]; have hal2 := insAll_len (l[k].2.take j) vs; have hf := ins_fn ((l[k].2.take j).foldl ins vs) l[k].2[j] (by simp only [List.length_take, List.length_nil] at hal2 hv; omega); simp only [strs] at hf; refine callP hf ?_; simp -implicitDefEqProofs [h0, h3, h5, h6, h7, h8, h9, hlt, hlt2, hlt3, atts, att, strs, hn]; refine ⟨by omega, again hlt3 ⟨by simp [h0, atts, att, strs], by simp [h3], by simp [h6], by simp [h5], by simp [h8], by simp, ?_⟩⟩; rw [take_s hlt3, List.foldl_append]; simp -implicitDefEqProofs [strs]
          · simp -implicitDefEqProofs [h0, h3, h5, h6, h7, h8, h9, hlt, hlt2, hlt3, atts, att, strs]; refine callP (lower_fn _ hal.1) ?_; simp -implicitDefEqProofs [h0, h3, h5, h6, h7, h8, h9, hlt, hlt2, hlt3, atts, att, strs, hn]; refine ⟨by omega, again hlt ⟨by simp [h0, atts, att, strs], by simp [h3], by simp [h6], by simp [h5], by simp, ?_⟩⟩; rw [hst, valsS, if_pos hn]; rw [ttl (by omega)] at h7; simp -implicitDefEqProofs [h7, strs]
        · rw [if_neg hn] at h7; simp -implicitDefEqProofs [h0, h3, h5, h6, h7, h8, h9, hlt, hlt2, atts, att, strs]; refine callP (lower_fn _ hal.1) ?_; simp (config := { maxSteps := 1000000 }) [h0, h3, h5, h6, h7, h8, h9, hlt, hlt2, atts, att, strs, hn]; refine ⟨by omega, again hlt ⟨by simp [h0, atts, att, strs], by simp [h3], by simp [h6], by simp [h5], by simp, ?_⟩⟩; rw [hst, valsS, if_neg hn]; simp -implicitDefEqProofs [h7, strs]
      · have hw := outA_width l ns i; rw [ttl (by omega)] at h7; simp -implicitDefEqProofs [h0, h3, h5, h6, h7, h8, hlt, hlt2, atts, att, strs]; rw [outA_len l hi]; refine ⟨by omega, by omega, by omega, again hlt2 ⟨by simp [h0, atts, att, strs], by simp [h3], by simp, ?_⟩⟩; simp -implicitDefEqProofs [outA_succ l hlt2, strs]
    · simp -implicitDefEqProofs [h0, h3, h5, h6, hlt2, atts, att, strs]; rw [← hN]; exact outA_all l i (by rw [hN]; omega)
def findA (n : Str) : List Att → List Str
  | [] => []
  | a :: l => if a.1 = n then a.2 else findA n l
def getL (l : List Att) (name : Str) : List Str := findA (lower name) (sortedL l)
theorem sorted_len (l : List Att) : (sortedL l).length ≤ l.length := by
  have := names_len l []; simp only [List.length_nil, Nat.zero_add] at this; simpa [sortedL, namesF] using this
theorem sorted_vals (l : List Att) : ∀ a ∈ sortedL l, a.2.length ≤ total l := by
  intro a ha; simp only [sortedL, List.mem_map] at ha; obtain ⟨n, _, rfl⟩ := ha; simpa [valsF] using vals_len n l []
theorem findA_len (n : Str) (c : Nat) : ∀ (l : List Att), (∀ a ∈ l, a.2.length ≤ c) → (findA n l).length ≤ c
  | [], _ => by simp [findA]
  | a :: l, h => by
    rw [findA]; split
    · exact h a (by simp)
    · exact findA_len n c l fun b hb => h b (by simp [hb])
theorem getL_len (l : List Att) (n : Str) : (getL l n).length ≤ total l := findA_len _ _ _ (sorted_vals l)
theorem made_fn (s : Str) (hs : List.length s < 1000000) : Ctr prog 130 [.d (.str s), .d (.clo 131 [])] (.d (.bool (s.all nameC && decide (s ≠ []) && decide (s.length ≤ 64)))) := by
  refine fv (fun _ => false) func130 (by kernel_rfl) rfl rfl rfl rfl rfl ?_; simp -implicitDefEqProofs; refine loopN (List.length s) (fun k τ => τ 0 = .d (.str s) ∧ τ 1 = .d (.clo 131 []) ∧ τ 7 = .d (.int .i64 (List.length s)) ∧ τ 8 = .d (.int .i64 k) ∧ ∀ x ∈ s.take k, nameC x = true) (by simp) ?_; rintro k τ hk ⟨h0, h1, h7, h8, ha⟩; by_cases hlt : k < List.length s
  · simp -implicitDefEqProofs [h0, h1, h7, h8, hlt]; refine callK (allowed_fn s[k]) ?_; by_cases e1 : nameC s[k] = true
    · simp -implicitDefEqProofs [h0, h1, h7, h8, hlt, e1]; exact ⟨by omega, again hlt ⟨by simp [h0], by simp [h1], by simp [h7], by simp, all_take hlt ha e1⟩⟩
    · simp -implicitDefEqProofs [h0, h1, h7, h8, hlt, e1]; intro h; exact absurd (h _ (gmm hlt)) e1
  · rw [ttl (by omega)] at ha; have hall : List.all s nameC = true := (by simpa using ha); by_cases e2 : s = []
    · simp -implicitDefEqProofs [h0, h1, h7, h8, hlt, e2]
    · simp -implicitDefEqProofs [h0, h1, h7, h8, hlt, e2, hall]
      all_goals omega
theorem fname_fn (s : Str) (hs : List.length s < 1000000) : Ctr prog 82 [.d (.str s)] (.d (.bool (nameB s))) := by
  refine fv (fun _ => false) func82 (by kernel_rfl) rfl rfl rfl rfl rfl ?_; simp -implicitDefEqProofs; refine callK (made_fn s hs) ?_; by_cases e : (s.all nameC && decide (s ≠ []) && decide (s.length ≤ 64)) = true
  · have e0 := e; simp only [Bool.and_eq_true, decide_eq_true_eq] at e; obtain ⟨⟨e1, e2⟩, e3⟩ := e; obtain ⟨c, t, rfl⟩ := List.exists_cons_of_ne_nil e2; simp only [e0]; simp -implicitDefEqProofs; refine callK (fletter_fn c) ?_; have e4 : (List.length (c :: t)) ≤ 64 := e3; simp -implicitDefEqProofs [nameB, e1, e4]; intro _; simpa using e4
  · rw [Bool.not_eq_true] at e; simp only [e]; simp -implicitDefEqProofs [nameB]; intro h1 h2 _; have hne : s ≠ [] := by
      rintro rfl; simp at h1
    simpa [hne, h2] using e
end Go.Proofs.Tz
set_option maxRecDepth 100000
namespace Go.Proofs.Tz
open Go.Vw Go.RowKit Go.Proofs
theorem ntrimmed_fn (s : Str) (hs : List.length s < 1000000) : Ctr prog 217 [.d (.str s)] (.d (.str (trimB s))) := by
  refine fv (fun _ => false) func217 (by kernel_rfl) rfl rfl rfl rfl rfl ?_; simp -implicitDefEqProofs; refine callK (trim_fn s hs) ?_; simp -implicitDefEqProofs
def compR (s : Str) : Pair × Int :=
  if nextU 61 s < s.length then
    (match valueR (trimB (s.drop (nextU 61 s + 1))) with
     | none => (([], []), 4)
     | some v => if nameB (trimB (s.take (nextU 61 s))) = false then (([], []), 5) else if cleanB v = false then (([], []), 8) else ((trimB (s.take (nextU 61 s)), v), 0))
  else (([], []), 4)
theorem compR_eq {s : Str} (h : NoU 44 s) : compR s = compU s := by
  unfold compR compU; rw [valueR_eq _ ((NoU.after (d := 61) (by decide) h).trim)]; try rfl
theorem ncomp_fn (s : Str) (hs : List.length s < 1000000) : Ctr prog 192 [.d (.str s)] (.tup [.d (pairD (compU s).1), .d (.int .i64 (compU s).2)]) := by
  refine fn_of_vwpN (rv := .cell 2 75) (rs := [.tmp 3]) (r := .d (pairD (compU s).1)) (ys := [.d (.int .i64 (compU s).2)]) (fun _ => false) (by kernel_rfl) func192 (by kernel_rfl) rfl rfl (by simp) (nbl rfl) (by kernel_rfl) rfl rfl ?_; simp -implicitDefEqProofs; refine callK (nindex_fn s 61 hs) ?_; by_cases hlt : nextU 61 s < s.length
  case neg =>
    have hx : indexU 61 s = -1 := by rw [indexU, if_neg hlt]
    simp -implicitDefEqProofs [hx]; simp [compU, hlt, pairD]
  have hx : indexU 61 s = (nextU 61 s : Int) := by rw [indexU, if_pos hlt]
  unfold compU; rw [if_pos hlt]; have b1 : List.length (s.drop (nextU 61 s + 1)) < 1000000 := by simp; omega
  have b2 : List.length (s.take (nextU 61 s)) < 1000000 := by simp; omega
  generalize hj : nextU 61 s = j at *; have htk : List.take (List.length s - (j + 1)) (List.drop (j + 1) s) = List.drop (j + 1) s := ttl (by simp); have i0 : ¬ (j : Int) < 0 := (by omega); have i1 : (0 : Int) ≤ (j : Int) + 1 := (by omega); have j1 : ((j : Int) + 1).toNat = j + 1 := (by omega); have c1 := ntrimmed_fn (s.drop (j + 1)) b1; have c2 := trim_fn (s.take j) b2; have t1 := trimB_len (s.drop (j + 1)); have t2 := trimB_len (s.take j); have c3 := nvalue_fn (trimB (s.drop (j + 1))) (by omega); have c4 := fname_fn (trimB (s.take j)) (by omega); have hvl := valueU_len _ (trimB (s.drop (j + 1))) (Nat.le_refl _); simp -implicitDefEqProofs [hx, i0, i1, j1, htk]; (repeat refine ai (by omega) ?_); refine callK c1 ?_; simp -implicitDefEqProofs; refine callK c3 ?_; generalize trimB (s.drop (j + 1)) = T at *; cases hv : valueU T with
  | none =>
    simp -implicitDefEqProofs [optT, hv]; (repeat refine ai (by omega) ?_); refine callK c2 ?_; generalize trimB (s.take j) = K at *; simp -implicitDefEqProofs; simp [pairD]
  | some v =>
    have hv2 := hvl v hv; have c5 := fclean_fn v (by omega); rw [cleanF_eq] at c5; simp -implicitDefEqProofs [optT, hv]; (repeat refine ai (by omega) ?_); refine callK c2 ?_; generalize trimB (s.take j) = K at *; simp -implicitDefEqProofs; refine callK c4 ?_; by_cases hn : nameB K = true
    · simp -implicitDefEqProofs [hn]; refine callK c5 ?_; by_cases hc : cleanB v = true
      · simp -implicitDefEqProofs [hc]; simp [pairD]
      · simp -implicitDefEqProofs [hc]; simp [pairD]
    · simp -implicitDefEqProofs [hn]; simp [pairD]
theorem ncompR_fn (s : Str) (hs : List.length s < 1000000) : Ctr prog 127 [.d (.str s)] (.tup [.d (pairD (compR s).1), .d (.int .i64 (compR s).2)]) := by
  refine fn_of_vwpN (rv := .cell 2 75) (rs := [.tmp 3]) (r := .d (pairD (compR s).1)) (ys := [.d (.int .i64 (compR s).2)]) (fun _ => false) (by kernel_rfl) func127 (by kernel_rfl) rfl rfl (by simp) (nbl rfl) (by kernel_rfl) rfl rfl ?_; simp -implicitDefEqProofs; refine callK (nnext_fn s 61 hs) ?_; by_cases hlt : nextU 61 s < s.length
  case neg =>
    have hx : (List.length s : Int) ≤ (nextU 61 s : Int) := (by omega); simp -implicitDefEqProofs [hx]; simp [compR, hlt, pairD]
  unfold compR; rw [if_pos hlt]; have b1 : List.length (s.drop (nextU 61 s + 1)) < 1000000 := by simp; omega
  have b2 : List.length (s.take (nextU 61 s)) < 1000000 := by simp; omega
  generalize hj : nextU 61 s = j at *; have htk : List.take (List.length s - (j + 1)) (List.drop (j + 1) s) = List.drop (j + 1) s := ttl (by simp); have i0 : ¬ (List.length s : Int) ≤ (j : Int) := (by omega); have i00 : ¬ List.length s ≤ j := (by omega); have i1 : (0 : Int) ≤ (j : Int) + 1 := (by omega); have j1 : ((j : Int) + 1).toNat = j + 1 := (by omega); have c1 := trimRf_fn (s.drop (j + 1)) b1; have c2 := trimRf_fn (s.take j) b2; have t1 := trimB_len (s.drop (j + 1)); have t2 := trimB_len (s.take j); have c3 := nvalueR_fn (trimB (s.drop (j + 1))) (by omega); have c4 := name_fn (trimB (s.take j)); have hvl := valueR_len _ (trimB (s.drop (j + 1))) (Nat.le_refl _); simp -implicitDefEqProofs [i0, i00, i1, j1, htk]; (repeat refine ai (by omega) ?_); refine callK c1 ?_; simp -implicitDefEqProofs; refine callK c3 ?_; generalize trimB (s.drop (j + 1)) = T at *; cases hv : valueR T with
  | none =>
    simp -implicitDefEqProofs [optT, hv]; simp [pairD]
  | some v =>
    have hv2 := hvl v hv; have c5 := clean_fn v; simp -implicitDefEqProofs [optT, hv]; (repeat refine ai (by omega) ?_); refine callK c2 ?_; generalize trimB (s.take j) = K at *; simp -implicitDefEqProofs; refine callK c4 ?_; by_cases hn : nameB K = true
    · simp -implicitDefEqProofs [hn]; refine callK c5 ?_; by_cases hc : cleanB v = true
      · simp -implicitDefEqProofs [hc]; simp [pairD]
      · simp -implicitDefEqProofs [hc]; simp [pairD]
    · simp -implicitDefEqProofs [hn]; simp [pairD]
theorem pieces_bound : ∀ (n : Nat) (s : Str), s.length ≤ n → (piecesU s).length ≤ s.length + 1 ∧ ∀ p ∈ piecesU s, p.length ≤ s.length := by
  intro n
  induction n with
  | zero =>
    intro s hn; have : s = [] := List.length_eq_zero_iff.1 (by omega); subst this; rw [piecesU_end (by simp)]; simp
  | succ n ih =>
    intro s hn; by_cases h : nextU 44 s < s.length
    · rw [piecesU_at h]; obtain ⟨h1, h2⟩ := ih (s.drop (nextU 44 s + 1)) (by simp only [List.length_drop]; omega); simp only [List.length_drop] at h1 h2; refine ⟨by simp only [List.length_cons]; omega, fun p hp => ?_⟩; rcases List.mem_cons.1 hp with rfl | hp
      · simp only [List.length_take]; omega
      · have := h2 p hp; omega
    · rw [piecesU_end h]; simp
theorem compsU_drop {out : List Pair} {ps : List Str} {k : Nat} (h : k < ps.length) : compsU out (ps.drop k) = if (compU ps[k]).2 = 0 then compsU (out ++ [(compU ps[k]).1]) (ps.drop (k + 1)) else ([], (compU ps[k]).2) := by
  rw [drop_c h]; rfl
theorem nparse_fn (s : Str) (hs : List.length s < 900000) : Ctr prog 143 [.d (.str s)] (.tup [.d (pairs (parseU s).1), .d (.int .i64 (parseU s).2)]) := by
  refine fn_of_vwpN (rv := .tmp 2) (rs := [.tmp 3]) (r := .d (pairs (parseU s).1)) (ys := [.d (.int .i64 (parseU s).2)]) (fun _ => false) (by kernel_rfl) func143 (by kernel_rfl) rfl rfl (by simp) (nbl rfl) (by kernel_rfl) rfl rfl ?_; by_cases hnil : s = []
  · simp -implicitDefEqProofs [hnil, parseU, pairs]
  have hP : parseU s = compsU [] (piecesU s) := by rw [parseU, if_neg hnil]
  have c1 := npieces_fn s (by omega); obtain ⟨b1, b2⟩ := pieces_bound _ s (Nat.le_refl _); rw [hP]; generalize piecesU s = ps at *; obtain ⟨R, hR⟩ : ∃ R, compsU [] ps = R := ⟨_, rfl⟩; rw [hR]; simp -implicitDefEqProofs [hnil]; refine callK c1 ?_; simp -implicitDefEqProofs; refine loopN ps.length (fun k τ => τ 12 = .own false 9 (ps.map .str) ∧ τ 13 = .d (.int .i64 ps.length) ∧ τ 14 = .d (.int .i64 k) ∧ ∃ out : List Pair, out.length = k ∧ τ 4 = .own false 75 (out.map pairD) ∧ compsU out (ps.drop k) = R) ?_ ?_
  · exact ⟨by simp, by simp, by simp, [], rfl, by simp, by simpa using hR⟩
  rintro k τ hk ⟨h12, h13, h14, out, ho, h4, hI⟩; by_cases hlt : k < ps.length
  · have hlt' : (k : Int) < ps.length := (by omega); rw [compsU_drop hlt] at hI; have hb := b2 _ (gmm hlt); have c2 := ncomp_fn ps[k] (by omega); simp -implicitDefEqProofs [h12, h13, h14, h4, hlt, hlt']; refine callK c2 ?_; generalize compU ps[k] = C at *; obtain ⟨⟨n, v⟩, e⟩ := C; by_cases he : e = 0
    · rw [if_pos he] at hI; simp -implicitDefEqProofs [h12, h13, h14, h4, hlt, hlt', he, pairD]; (repeat refine ai (by omega) ?_); exact again hlt ⟨by simp [h12], by simp [h13], by simp, out ++ [(n, v)], by simp [ho], by simp [pairD], hI⟩
    · rw [if_neg he] at hI; subst hI; simp -implicitDefEqProofs [h12, h13, h14, h4, hlt, hlt', he, pairD]; simp [pairs]
  · have hlt' : ¬ (k : Int) < ps.length := (by omega); rw [List.drop_eq_nil_of_le (by omega), compsU] at hI; by_cases h8 : 8 < out.length
    · rw [if_pos h8] at hI; subst hI; have h8' : (8 : Int) < out.length := (by omega); simp -implicitDefEqProofs [h12, h13, h14, h4, hlt, hlt', h8', pairs]; try omega
    · rw [if_neg h8] at hI; subst hI; have h8' : ¬ (8 : Int) < out.length := (by omega); simp -implicitDefEqProofs [h12, h13, h14, h4, hlt, hlt', h8', pairs]; try omega
def NpI (R : List Pair × Int) (s : Str) (m : Nat) (τ : St) : Prop := ∃ (rest : Str) (more : Bool) (out : List Pair), m = (if more = true then List.length rest + 1 else 0) ∧ τ 5 = .d (.str rest) ∧ τ 6 = .d (.bool more) ∧ τ 4 = .own false 75 (out.map pairD) ∧
  List.length rest ≤ List.length s ∧ out.length ≤ List.length s + 1 - (if more = true then List.length rest + 1 else 0) + 0 ∧ compsU out (if more = true then piecesU rest else []) = R
theorem nparseR_fn (s : Str) (hs : List.length s < 900000) : Ctr prog 80 [.d (.str s)] (.tup [.d (pairs (parseU s).1), .d (.int .i64 (parseU s).2)]) := by
  refine fn_of_vwpN (rv := .tmp 2) (rs := [.tmp 3]) (r := .d (pairs (parseU s).1)) (ys := [.d (.int .i64 (parseU s).2)]) (fun _ => false) (by kernel_rfl) func80 (by kernel_rfl) rfl rfl (by simp) (nbl rfl) (by kernel_rfl) rfl rfl ?_; obtain ⟨R, hR⟩ : ∃ R, parseU s = R := ⟨_, rfl⟩; rw [hR]; have hP : compsU [] (if (!decide (s = [])) = true then piecesU s else []) = R := by
    rw [← hR, parseU]; by_cases h : s = []
    · simp [h, compsU]
    · simp [h]
  simp -implicitDefEqProofs; refine loopK (NpI R s) (if (!decide (s = [])) = true then List.length s + 1 else 0) ⟨s, !decide (s = []), [], rfl, by simp, by simp, by simp, by omega, by simp, hP⟩ ?_; clear hP hR; rintro m τ ⟨rest, more, out, rfl, h5, h6, h4, hl, ho, hI⟩; cases more with
  | false =>
    simp only [Bool.false_eq_true, if_false, compsU] at hI ho; by_cases h8 : 8 < out.length
    · rw [if_pos h8] at hI; subst hI; have h8' : (8 : Int) < out.length := (by omega); simp -implicitDefEqProofs [h5, h6, h4, h8', pairs]; try omega
    · rw [if_neg h8] at hI; subst hI; have h8' : ¬ (8 : Int) < out.length := (by omega); simp -implicitDefEqProofs [h5, h6, h4, h8', pairs]; try omega
  | true =>
    simp only [if_true] at hI ho; have hno := pieces_no _ rest (Nat.le_refl _); have hle := nextU_le 44 rest; have hbl : List.length (rest.take (nextU 44 rest)) < 1000000 := by simp; omega
    have c1 := ncompR_fn (rest.take (nextU 44 rest)) hbl; by_cases hlt : nextU 44 rest < rest.length
    · rw [piecesU_at hlt] at hI hno; rw [compR_eq (hno _ (by simp))] at c1; simp only [compsU] at hI; simp -implicitDefEqProofs [h5, h6, h4]; refine callK (nnext_fn rest 44 (by omega)) ?_; generalize nextU 44 rest = j at *; have htk : List.take (List.length rest - (j + 1)) (List.drop (j + 1) rest) = List.drop (j + 1) rest := ttl (by simp); have i1 : (0 : Int) ≤ (j : Int) + 1 := (by omega); have j1 : ((j : Int) + 1).toNat = j + 1 := (by omega); have hlt' : (j : Int) < List.length rest := (by omega); have hdl : List.length (rest.drop (j + 1)) = List.length rest - (j + 1) := (by simp); simp -implicitDefEqProofs [h5, h6, h4]; (repeat refine ai (by omega) ?_); refine callK c1 ?_; generalize compU (rest.take j) = C at *; obtain ⟨⟨n, v⟩, e⟩ := C; by_cases he : e = 0
      · simp only [he, if_true] at hI; simp -implicitDefEqProofs [h5, h6, h4, he, pairD, hlt', hlt, i1, j1, htk]; (repeat refine ai (by omega) ?_); refine ⟨List.length (rest.drop (j + 1)) + 1, by omega, rest.drop (j + 1), true, out ++ [(n, v)], by simp, by simp, by simp, by simp [pairD], by omega, by simp; omega, by simpa using hI⟩
      · simp only [he, if_false] at hI; subst hI; simp -implicitDefEqProofs [h5, h6, h4, he, pairD, pairs]
    · have hje : nextU 44 rest = List.length rest := (by omega); rw [piecesU_end hlt] at hI hno; have hte : rest.take (nextU 44 rest) = rest := by rw [hje]; simp
      rw [hte, compR_eq (hno rest (by simp))] at c1; simp only [compsU] at hI; simp -implicitDefEqProofs [h5, h6, h4]; refine callK (nnext_fn rest 44 (by omega)) ?_; rw [hje]; simp -implicitDefEqProofs [h5, h6, h4]; refine callK c1 ?_; generalize compU rest = C at *; obtain ⟨⟨n, v⟩, e⟩ := C; by_cases he : e = 0
      · simp only [he, if_true] at hI; simp -implicitDefEqProofs [h5, h6, h4, he, pairD]; (repeat refine ai (by omega) ?_); refine ⟨0, by omega, rest, false, out ++ [(n, v)], by simp, by simp [h5], by simp, by simp [pairD], by omega, by simp; omega, by simpa [compsU] using hI⟩
      · simp only [he, if_false] at hI; subst hI; simp -implicitDefEqProofs [h5, h6, h4, he, pairD, pairs]
def FitN (l : List Pair) : Prop := l.length < 1000000 ∧ ∀ p ∈ l, List.length p.1 < 1000000 ∧ List.length p.2 < 1000000
theorem pairsE_drop {l : List Pair} {k : Nat} (h : k < l.length) : pairsE (l.drop k) = if pairE l[k] = 0 then pairsE (l.drop (k + 1)) else pairE l[k] := by
  rw [drop_c h]; rfl
theorem pairE_ok {p : Pair} : pairE p = 0 ↔ nameB p.1 = true ∧ cleanB p.2 = true := by
  unfold pairE; by_cases h1 : nameB p.1 = true <;> by_cases h2 : cleanB p.2 = true <;> simp [h1, h2]
theorem nameB_len {s : Str} (h : nameB s = true) : s.length ≤ 64 := by
  simp only [nameB, Bool.and_eq_true, decide_eq_true_eq] at h; exact h.1.1.2
theorem cleanB_len {s : Str} (h : cleanB s = true) : s.length ≤ 256 := by
  simp only [cleanB, Bool.and_eq_true, decide_eq_true_eq] at h; exact h.1.1.1.2
theorem ncheck_fn (l : List Pair) (hl : FitN l) : Ctr prog 157 [.d (pairs l)] (.d (.int .i64 (checkU l))) := by
  refine fv (fun _ => false) func157 (by kernel_rfl) rfl rfl rfl rfl rfl ?_; obtain ⟨R, hR⟩ : ∃ R, checkU l = R := ⟨_, rfl⟩; rw [hR]; have hl1 := hl.1; simp -implicitDefEqProofs [pairs]; refine loopN l.length (fun k τ => τ 0 = .d (.sl (l.map pairD)) ∧ τ 5 = .d (.sl (l.map pairD)) ∧ τ 6 = .d (.int .i64 l.length) ∧ τ 7 = .d (.int .i64 k) ∧ pairsE l = pairsE (l.drop k)) ⟨by simp, by simp, by simp, by simp, by simp⟩ ?_; rintro k τ hk ⟨h0, h5, h6, h7, hI⟩; by_cases hlt : k < l.length
  · have hlt' : (k : Int) < l.length := (by omega); obtain ⟨f1, f2⟩ := hl.2 l[k] (gmm hlt); rw [pairsE_drop hlt] at hI; generalize hp : l[k] = p at *; obtain ⟨n, v⟩ := p; have c1 := fname_fn n f1; have c2 := fclean_fn v f2; rw [cleanF_eq] at c2; simp -implicitDefEqProofs [h0, h5, h6, h7, hlt, hlt', hp, pairD]; refine callK c1 ?_; by_cases hn : nameB n = true
    · simp -implicitDefEqProofs [h0, h5, h6, h7, hn]; refine callK c2 ?_; by_cases hc : cleanB v = true
      · have e : pairE (n, v) = 0 := pairE_ok.2 ⟨hn, hc⟩; rw [if_pos e] at hI; simp -implicitDefEqProofs [h0, h5, h6, h7, hc]; (repeat refine ai (by omega) ?_); exact again hlt ⟨by simp [h0], by simp [h5], by simp [h6], by simp, hI⟩
      · have e : pairE (n, v) = 8 := (by simp [pairE, hn, hc]); rw [e, if_neg (by omega)] at hI; have hq : R = 8 := by rw [← hR, checkU, hI, if_neg (by omega)]
        simp -implicitDefEqProofs [h0, h5, h6, h7, hc, hq]
    · have e : pairE (n, v) = 5 := (by simp [pairE, hn]); rw [e, if_neg (by omega)] at hI; have hq : R = 5 := by rw [← hR, checkU, hI, if_neg (by omega)]
      simp -implicitDefEqProofs [h0, h5, h6, h7, hn, hq]
  · have hlt' : ¬ (k : Int) < l.length := (by omega); rw [List.drop_eq_nil_of_le (by omega), pairsE] at hI; rw [checkU, if_pos hI] at hR; by_cases h8 : 8 < l.length
    · have h8' : (8 : Int) < l.length := (by omega); rw [if_pos h8] at hR; simp -implicitDefEqProofs [h0, h5, h6, h7, hlt', h8', ← hR]
    · have h8' : ¬ (8 : Int) < l.length := (by omega); rw [if_neg h8] at hR; simp -implicitDefEqProofs [h0, h5, h6, h7, hlt', h8', ← hR]
theorem joinB_snoc (c : UInt8) (p : Str) : ∀ (l : List Str), joinB c (l ++ [p]) = if l = [] then p else joinB c l ++ c :: p
  | [] => rfl
  | [q] => rfl
  | q :: r :: l => by
    have ih := joinB_snoc c p (r :: l); rw [if_neg (by simp)] at ih; rw [if_neg (by simp)]; have e1 : joinB c (q :: r :: l ++ [p]) = q ++ c :: joinB c (r :: l ++ [p]) := rfl; have e2 : joinB c (q :: r :: l) = q ++ c :: joinB c (r :: l) := rfl; rw [e1, e2, ih]; simp
def fmtT (l : List Pair) (k : Nat) : Str := joinB 44 ((l.take k).map fmtC)
def fmtP (l : List Pair) (k : Nat) (n : Str) : Str := (if k = 0 then [] else fmtT l k ++ [44]) ++ (lower n ++ [61])
theorem fmtT_zero (l : List Pair) : fmtT l 0 = [] := by simp [fmtT, joinB]
theorem fmtT_succ {l : List Pair} {k : Nat} (h : k < l.length) : fmtT l (k + 1) = fmtP l k l[k].1 ++ escV (foldS l[k].2) := by
  rw [fmtT, take_s h, List.map_append, List.map_cons, List.map_nil, joinB_snoc, fmtP, fmtT]; by_cases hk : k = 0
  · subst hk; simp [fmtC]
  · rw [if_neg hk, if_neg]
    · simp [fmtC]
    · intro e; have := congrArg List.length e; simp only [List.length_map, List.length_take, List.length_nil] at this; omega
theorem fmtT_all (l : List Pair) {k : Nat} (h : ¬ k < l.length) : fmtT l k = joinB 44 (l.map fmtC) := by
  have e : l.take k = l := ttl (by omega); rw [fmtT, e]
theorem escV_snoc (a : Str) (c : UInt8) : escV (a ++ [c]) = escV a ++ (if specB c = true then [92, c] else [c]) := by simp [escV]
theorem escV_take {s : Str} {k : Nat} (h : k < s.length) : escV (s.take (k + 1)) = escV (s.take k) ++ (if specB s[k] = true then [92, s[k]] else [s[k]]) := by rw [take_s h, escV_snoc]
theorem escV_len (s : Str) : (escV s).length ≤ 2 * s.length := by
  induction s with
  | nil => simp [escV]
  | cons c s ih =>
    have e : escV (c :: s) = (if specB c = true then [92, c] else [c]) ++ escV s := (by simp [escV]); rw [e, List.length_append, List.length_cons]; split <;> simp <;> omega
theorem fmtT_len {l : List Pair} : ∀ {k : Nat}, k ≤ l.length → (∀ p ∈ l.take k, pairE p = 0) → (fmtT l k).length ≤ 600 * k
  | 0, _, _ => by simp [fmtT_zero]
  | k + 1, hk, h => by
    have hlt : k < l.length := (by omega); have ih := fmtT_len (l := l) (k := k) (by omega) (fun p hp => h p (by rw [take_s hlt, List.mem_append]; exact .inl hp)); have hp := pairE_ok.1 (h l[k] (by rw [take_s hlt, List.mem_append]; exact .inr (by simp))); have a1 := nameB_len hp.1; have a2 := cleanB_len hp.2; have a3 := escV_len (foldS l[k].2); have a4 := foldS_len l[k].2; rw [fmtT_succ hlt, List.length_append, fmtP, List.length_append, List.length_append, lower_len]; split
    · simp; omega
    · simp; omega
theorem fmtP_len {l : List Pair} {k : Nat} {n : Str} (h : (fmtT l k).length ≤ 600 * k) (hn : n.length ≤ 64) : (fmtP l k n).length ≤ 600 * k + 66 := by
  rw [fmtP, List.length_append, List.length_append, lower_len]; split
  · simp; omega
  · simp; omega
theorem nformat_fn (l : List Pair) (hl : FitN l) : Ctr prog 104 [.d (pairs l)] (.tup [.d (.str (formatU l).1), .d (.int .i64 (formatU l).2)]) := by
  refine fn_of_vwpN (rv := .tmp 2) (rs := [.tmp 3]) (r := .d (.str (formatU l).1)) (ys := [.d (.int .i64 (formatU l).2)]) (fun i => i == 1000005 || i == 5000024 || i == 5000028 || i == 5000029 || i == 5000042 || i == 5000046 || i == 5000049) (by kernel_rfl) func104 (by kernel_rfl) rfl rfl (by simp) (nbl rfl) (by kernel_rfl) rfl rfl ?_; have c0 := ncheck_fn l hl; simp only [pairs] at c0 ⊢; simp -implicitDefEqProofs; refine callK c0 ?_; by_cases hc : checkU l = 0
  case neg =>
    simp -implicitDefEqProofs [hc, formatU]
  have hF : formatU l = (joinB 44 (l.map fmtC), 0) := by rw [formatU, if_pos hc]
  rw [hF]; have hE : ∀ p ∈ l, pairE p = 0 := pairsE_zero.1 (by
    unfold checkU at hc; split at hc
    · assumption
    · rename_i h; exact absurd hc h)
  have h8 : l.length ≤ 8 := by
    unfold checkU at hc; split at hc
    · split at hc
      · omega
      · omega
    · rename_i h; exact absurd hc h
  simp -implicitDefEqProofs [hc]; refine newK2 1000000 1000001 5 (by simp) (by kernel_rfl) (by simp) (by simp) (fun b => ?_); simp -implicitDefEqProofs; refine loopN l.length (fun k τ => τ 15 = .d (.sl (l.map pairD)) ∧ τ 16 = .d (.int .i64 l.length) ∧ τ 17 = .d (.int .i64 k) ∧ τ 5 = .d (.raw (va b)) ∧ BldAt τ b (fmtT l k)) ?_ ?_
  · exact ⟨by simp, by simp, by simp, by simp, .nilp, .slice none 0 0, .inl rfl, by simp [zTX61], by simp [fmtT_zero, bytesD]⟩
  rintro k τ hk ⟨h15, h16, h17, h5, p, hd, hp, hb, hh⟩; have hbl := fmtT_len (l := l) hk (fun p hp => hE p (List.mem_of_mem_take hp)); by_cases hlt : k < l.length
  · obtain ⟨f1, f2⟩ := hl.2 l[k] (gmm hlt); obtain ⟨g1, g2⟩ := pairE_ok.1 (hE l[k] (gmm hlt)); have hlt' : (k : Int) < l.length := (by omega); have hs := fmtT_succ hlt; have hr : ∃ r, l[k] = r := ⟨_, rfl⟩; obtain ⟨r, hr⟩ := hr; rw [hr] at f1 f2 g1 g2 hs; obtain ⟨n, v⟩ := r; simp only at f1 f2 g1 g2 hs; have a1 := nameB_len g1; have a2 := cleanB_len g2; have a4 := foldS_len v; have c1 := foldLower_fn n f1; have c2 := ffold_fn v f2; have hpl := fmtP_len (n := n) hbl a1; have hll := lower_len n; have key : ∀ (τ : St) (hd : Value) (p : D), (p = .nilp ∨ p = .raw (va b)) → True := fun _ _ _ _ => trivial
    by_cases hk0 : k = 0
    · have hP : fmtP l k n = lower n ++ [61] := by rw [fmtP, if_pos hk0]; rfl
      have z0 : ¬ (0 : Int) < (k : Int) := (by omega); have z1 : ¬ 0 < k := (by omega); have e0 : fmtT l k = [] := by rw [hk0, fmtT_zero]
      rw [e0] at hh; simp -implicitDefEqProofs [h15, h16, h17, h5, hlt, hlt', hr, pairD, z0, z1]; refine callK c1 ?_; simp -implicitDefEqProofs [h15, h16, h17, h5]; refine givB [1000000, 1000001] 1000000 (writeString_fn (s := []) (hd := hd) hp (lower n) (by simp [lower_len]; omega)) (by simp [hb, hh]) rfl (by simp) ?_; rintro r hs' ⟨hd1, rfl⟩; simp -implicitDefEqProofs [h15, h16, h17, h5, takeH, putH]; refine givB [1000000, 1000001] 1000000 (writeByte_fn (b := b) (s := lower n) (hd := hd1) (.inr rfl) 61 (by omega)) (by simp) rfl (by simp) ?_; rintro r hs' ⟨hd2, rfl⟩; simp -implicitDefEqProofs [h15, h16, h17, h5, takeH, putH]; refine callK c2 ?_; generalize foldS v = w at *; simp -implicitDefEqProofs [h15, h16, h17, h5]; refine loopN w.length (fun i τ => τ 15 = .d (.sl (l.map pairD)) ∧ τ 16 = .d (.int .i64 l.length) ∧ τ 17 = .d (.int .i64 k) ∧ τ 5 = .d (.raw (va b)) ∧ τ 8 = .d (.str w) ∧ τ 34 = .d (.int .i64 w.length) ∧ τ 35 = .d (.int .i64 i) ∧ BldAt τ b (fmtP l k n ++ escV (w.take i))) ?_ ?_
      · exact ⟨by simp [h15], by simp [h16], by simp [h17], by simp [h5], by simp, by simp, by simp, .raw (va b), hd2, .inr rfl, by simp, by simp [hP, escV, bytesD]⟩
      clear h15 h16 h17 h5 hb hh hp hd p hd1 hd2 τ; rintro i τ hi ⟨h15, h16, h17, h5, h8, h34, h35, p, hd, hp, hb, hh⟩; by_cases hil : i < List.length w
      · have hil' : (i : Int) < w.length := (by omega); have hs2 := escV_take hil; have hel := escV_len (w.take i); rw [List.length_take] at hel; by_cases h6 : specB w[i] = true
        · rw [if_pos h6] at hs2; simp -implicitDefEqProofs [h15, h16, h17, h5, h8, h34, h35, hil, hil']; refine callK (nspecial_fn w[i]) ?_; simp -implicitDefEqProofs [h15, h16, h17, h5, h8, h34, h35, hil, hil', h6]; refine givB [1000000, 1000001] 1000000 (writeByte_fn (s := fmtP l k n ++ escV (w.take i)) (hd := hd) hp 92 (by simp; omega)) (by simp [hb, hh]) rfl (by simp) ?_; rintro r hs' ⟨hd1, rfl⟩; simp -implicitDefEqProofs [h15, h16, h17, h5, h8, h34, h35, hil, hil', takeH, putH]; refine givB [1000000, 1000001] 1000000 (writeByte_fn (b := b) (s := fmtP l k n ++ escV (w.take i) ++ [92]) (hd := hd1) (.inr rfl) w[i] (by simp; omega)) (by simp) rfl (by simp) ?_; rintro r hs' ⟨hd2, rfl⟩; simp -implicitDefEqProofs [h15, h16, h17, h5, h8, h34, h35, hil, hil', takeH, putH]; (repeat refine ai (by omega) ?_); exact again hil ⟨by simp [h15], by simp [h16], by simp [h17], by simp [h5], by simp [h8], by simp [h34], by simp, .raw (va b), hd2, .inr rfl, by simp, by simp [hs2]⟩
        · rw [if_neg h6] at hs2; simp -implicitDefEqProofs [h15, h16, h17, h5, h8, h34, h35, hil, hil']; refine callK (nspecial_fn w[i]) ?_; simp -implicitDefEqProofs [h15, h16, h17, h5, h8, h34, h35, hil, hil', h6]; refine givB [1000000, 1000001] 1000000 (writeByte_fn (s := fmtP l k n ++ escV (w.take i)) (hd := hd) hp w[i] (by simp; omega)) (by simp [hb, hh]) rfl (by simp) ?_; rintro r hs' ⟨hd1, rfl⟩; simp -implicitDefEqProofs [h15, h16, h17, h5, h8, h34, h35, hil, hil', takeH, putH]; (repeat refine ai (by omega) ?_); exact again hil ⟨by simp [h15], by simp [h16], by simp [h17], by simp [h5], by simp [h8], by simp [h34], by simp, .raw (va b), hd1, .inr rfl, by simp, by simp [hs2]⟩
      · have hil' : ¬ (i : Int) < w.length := (by omega); rw [ttl (by omega)] at hh; simp -implicitDefEqProofs [h15, h16, h17, h5, h8, h34, h35, hil, hil']; (repeat refine ai (by omega) ?_); exact again hlt ⟨by simp [h15], by simp [h16], by simp, by simp [h5], p, hd, hp, by simp [hb], by simp [hs, hh]⟩
    · have hP : fmtP l k n = fmtT l k ++ [44] ++ (lower n ++ [61]) := by rw [fmtP, if_neg hk0]
      have z0 : (0 : Int) < (k : Int) := (by omega); have z1 : 0 < k := (by omega); have z2 : ¬ k = 0 := hk0; simp -implicitDefEqProofs [h15, h16, h17, h5, hlt, hlt', hr, pairD, z0, z1]; refine givB [1000000, 1000001] 1000000 (writeByte_fn (s := fmtT l k) (hd := hd) hp 44 (by omega)) (by simp [hb, hh]) rfl (by simp) ?_; rintro r hs' ⟨hd0, rfl⟩; simp -implicitDefEqProofs [h15, h16, h17, h5, takeH, putH]; refine callK c1 ?_; simp -implicitDefEqProofs [h15, h16, h17, h5]; refine givB [1000000, 1000001] 1000000 (writeString_fn (b := b) (s := fmtT l k ++ [44]) (hd := hd0) (.inr rfl) (lower n) (by simp [lower_len]; omega)) (by simp) rfl (by simp) ?_; rintro r hs' ⟨hd1, rfl⟩; simp -implicitDefEqProofs [h15, h16, h17, h5, takeH, putH]; refine givB [1000000, 1000001] 1000000 (writeByte_fn (b := b) (s := fmtT l k ++ [44] ++ lower n) (hd := hd1) (.inr rfl) 61 (by simp [lower_len]; omega)) (by simp) rfl (by simp) ?_; rintro r hs' ⟨hd2, rfl⟩; simp -implicitDefEqProofs [h15, h16, h17, h5, takeH, putH]; refine callK c2 ?_; generalize foldS v = w at *; simp -implicitDefEqProofs [h15, h16, h17, h5]; refine loopN w.length (fun i τ => τ 15 = .d (.sl (l.map pairD)) ∧ τ 16 = .d (.int .i64 l.length) ∧ τ 17 = .d (.int .i64 k) ∧ τ 5 = .d (.raw (va b)) ∧ τ 8 = .d (.str w) ∧ τ 34 = .d (.int .i64 w.length) ∧ τ 35 = .d (.int .i64 i) ∧ BldAt τ b (fmtP l k n ++ escV (w.take i))) ?_ ?_
      · exact ⟨by simp [h15], by simp [h16], by simp [h17], by simp [h5], by simp, by simp, by simp, .raw (va b), hd2, .inr rfl, by simp, by simp [hP, escV, bytesD]⟩
      clear h15 h16 h17 h5 hb hh hp hd p hd0 hd1 hd2 τ; rintro i τ hi ⟨h15, h16, h17, h5, h8, h34, h35, p, hd, hp, hb, hh⟩; by_cases hil : i < List.length w
      · have hil' : (i : Int) < w.length := (by omega); have hs2 := escV_take hil; have hel := escV_len (w.take i); rw [List.length_take] at hel; by_cases h6 : specB w[i] = true
        · rw [if_pos h6] at hs2; simp -implicitDefEqProofs [h15, h16, h17, h5, h8, h34, h35, hil, hil']; refine callK (nspecial_fn w[i]) ?_; simp -implicitDefEqProofs [h15, h16, h17, h5, h8, h34, h35, hil, hil', h6]; refine givB [1000000, 1000001] 1000000 (writeByte_fn (s := fmtP l k n ++ escV (w.take i)) (hd := hd) hp 92 (by simp; omega)) (by simp [hb, hh]) rfl (by simp) ?_; rintro r hs' ⟨hd1, rfl⟩; simp -implicitDefEqProofs [h15, h16, h17, h5, h8, h34, h35, hil, hil', takeH, putH]; refine givB [1000000, 1000001] 1000000 (writeByte_fn (b := b) (s := fmtP l k n ++ escV (w.take i) ++ [92]) (hd := hd1) (.inr rfl) w[i] (by simp; omega)) (by simp) rfl (by simp) ?_; rintro r hs' ⟨hd2, rfl⟩; simp -implicitDefEqProofs [h15, h16, h17, h5, h8, h34, h35, hil, hil', takeH, putH]; (repeat refine ai (by omega) ?_); exact again hil ⟨by simp [h15], by simp [h16], by simp [h17], by simp [h5], by simp [h8], by simp [h34], by simp, .raw (va b), hd2, .inr rfl, by simp, by simp [hs2]⟩
        · rw [if_neg h6] at hs2; simp -implicitDefEqProofs [h15, h16, h17, h5, h8, h34, h35, hil, hil']; refine callK (nspecial_fn w[i]) ?_; simp -implicitDefEqProofs [h15, h16, h17, h5, h8, h34, h35, hil, hil', h6]; refine givB [1000000, 1000001] 1000000 (writeByte_fn (s := fmtP l k n ++ escV (w.take i)) (hd := hd) hp w[i] (by simp; omega)) (by simp [hb, hh]) rfl (by simp) ?_; rintro r hs' ⟨hd1, rfl⟩; simp -implicitDefEqProofs [h15, h16, h17, h5, h8, h34, h35, hil, hil', takeH, putH]; (repeat refine ai (by omega) ?_); exact again hil ⟨by simp [h15], by simp [h16], by simp [h17], by simp [h5], by simp [h8], by simp [h34], by simp, .raw (va b), hd1, .inr rfl, by simp, by simp [hs2]⟩
      · have hil' : ¬ (i : Int) < w.length := (by omega); rw [ttl (by omega)] at hh; simp -implicitDefEqProofs [h15, h16, h17, h5, h8, h34, h35, hil, hil']; (repeat refine ai (by omega) ?_); exact again hlt ⟨by simp [h15], by simp [h16], by simp, by simp [h5], p, hd, hp, by simp [hb], by simp [hs, hh]⟩
  · have hlt' : ¬ (k : Int) < l.length := (by omega); rw [fmtT_all l hlt] at hh; simp -implicitDefEqProofs [h15, h16, h17, h5, hlt, hlt']; refine givB [1000000, 1000001] 1000000 (string_fn (s := joinB 44 (l.map fmtC)) (hd := hd) hp) (by simp [hb, hh]) rfl (by simp) ?_; rintro r hs' ⟨rfl, rfl⟩; simp -implicitDefEqProofs [h15, h16, h17, h5, takeH, putH]
theorem bytesD_app (a b : Str) : bytesD a ++ bytesD b = bytesD (a ++ b) := by simp [bytesD]
theorem bytesD_len (a : Str) : (bytesD a).length = a.length := by simp [bytesD]
theorem nformatR_fn (l : List Pair) (hl : FitN l) : Ctr prog 81 [.d (pairs l)] (.tup [.d (.str (formatU l).1), .d (.int .i64 (formatU l).2)]) := by
  refine fn_of_vwpN (rv := .tmp 2) (rs := [.tmp 3]) (r := .d (.str (formatU l).1)) (ys := [.d (.int .i64 (formatU l).2)]) (fun i => false) (by kernel_rfl) func81 (by kernel_rfl) rfl rfl (by simp) (nbl rfl) (by kernel_rfl) rfl rfl ?_; obtain ⟨R, hR⟩ : ∃ R, formatU l = R := ⟨_, rfl⟩; rw [hR]; have hl1 := hl.1; simp -implicitDefEqProofs [pairs]; refine loopN l.length (fun k τ => τ 0 = .d (.sl (l.map pairD)) ∧ τ 5 = .d (.int .i64 k) ∧ τ 4 = .own false 5 (bytesD (fmtT l k)) ∧ pairsE l = pairsE (l.drop k) ∧ ∀ p ∈ l.take k, pairE p = 0) ⟨by simp, by simp, by simp [fmtT_zero, bytesD], by simp, by simp⟩ ?_; rintro k τ hk ⟨h0, h5, h4, hI, hA⟩; have hbl := fmtT_len (l := l) hk hA; have hbb := bytesD_len (fmtT l k); by_cases hlt : k < l.length
  · have hlt' : (k : Int) < l.length := (by omega); obtain ⟨f1, f2⟩ := hl.2 l[k] (gmm hlt); have hs := fmtT_succ hlt; have hA2 : pairE l[k] = 0 → ∀ p ∈ l.take (k + 1), pairE p = 0 := fun h p hp => by
      rw [take_s hlt, List.mem_append, List.mem_singleton] at hp; rcases hp with hp | rfl
      · exact hA p hp
      · exact h
    rw [pairsE_drop hlt] at hI; have hr : ∃ r, l[k] = r := ⟨_, rfl⟩; obtain ⟨r, hr⟩ := hr; rw [hr] at f1 f2 hs hA2 hI; obtain ⟨n, v⟩ := r; simp only at f1 f2 hs; have c1 := name_fn n; have c2 := clean_fn v; have c3 := lower_fn n f1; have c4 := ffoldR_fn v f2; simp -implicitDefEqProofs [h0, h5, h4, hlt, hlt', hr, pairD]; refine callK c1 ?_; by_cases hn : nameB n = true
    case neg =>
      have e : pairE (n, v) = 5 := (by simp [pairE, hn]); rw [e, if_neg (by omega)] at hI; have hq : R = ([], 5) := by rw [← hR, formatU, checkU, hI, if_neg (by omega), if_neg (by omega)]
      simp -implicitDefEqProofs [h0, h5, h4, hn, hq]
    simp -implicitDefEqProofs [h0, h5, h4, hlt, hlt', hr, pairD, hn]; refine callK c2 ?_; by_cases hc : cleanB v = true
    case neg =>
      have e : pairE (n, v) = 8 := (by simp [pairE, hn, hc]); rw [e, if_neg (by omega)] at hI; have hq : R = ([], 8) := by rw [← hR, formatU, checkU, hI, if_neg (by omega), if_neg (by omega)]
      simp -implicitDefEqProofs [h0, h5, h4, hc, hq]
    have e : pairE (n, v) = 0 := pairE_ok.2 ⟨hn, hc⟩; rw [if_pos e] at hI; have hA3 := hA2 e; have a1 := nameB_len hn; have a2 := cleanB_len hc; have a4 := foldS_len v; have hpl := fmtP_len (n := n) hbl a1; have hll := lower_len n; have hpb := bytesD_len (fmtP l k n); by_cases hk0 : k = 0
    · have hP : fmtP l k n = lower n ++ [61] := by rw [fmtP, if_pos hk0]; rfl
      have z0 : ¬ (0 : Int) < (k : Int) := (by omega); have z1 : ¬ 0 < k := (by omega); have e0 : fmtT l k = [] := by rw [hk0, fmtT_zero]
      have hPb : bytesD (lower n) ++ [D.int .u8 61] = bytesD (fmtP l k n) := by rw [hP, ← bytesD_app]; rfl
      rw [e0] at h4; simp only [bytesD, List.map_nil] at h4; simp -implicitDefEqProofs [h0, h5, h4, hlt, hlt', hr, pairD, hc, z0, z1]; refine callK c3 ?_; simp -implicitDefEqProofs [h0, h5, h4, hlt, hlt', hr, pairD]; (repeat refine And.intro (by first | omega | (simp [bytesD, lower_len]; omega)) ?_); refine callK c4 ?_; generalize foldS v = w at *; rw [hPb]; generalize fmtP l k n = P at *; simp -implicitDefEqProofs [h0, h5]; refine loopN w.length (fun i τ => τ 0 = .d (.sl (l.map pairD)) ∧ τ 5 = .d (.int .i64 k) ∧ τ 6 = .d (.str w) ∧ τ 7 = .d (.int .i64 i) ∧ τ 4 = .own false 5 (bytesD (P ++ escV (w.take i)))) ?_ ?_
      · exact ⟨by simp [h0], by simp [h5], by simp, by simp, by simp [escV]⟩
      clear h0 h5 h4 τ; rintro i τ hi ⟨h0, h5, h6, h7, h4⟩; have hel := escV_len (w.take i); rw [List.length_take] at hel; by_cases hil : i < List.length w
      · have hil' : (i : Int) < w.length := (by omega); have hs2 := escV_take hil; by_cases hsp : specB w[i] = true
        · rw [if_pos hsp] at hs2; simp -implicitDefEqProofs [h0, h5, h6, h7, h4, hil, hil']; refine callK (nspecialR_fn w[i]) ?_; simp -implicitDefEqProofs [h0, h5, h6, h7, h4, hil, hil', hsp]; (repeat refine And.intro (by first | omega | (simp [bytesD]; omega)) ?_); exact again hil ⟨by simp [h0], by simp [h5], by simp [h6], by simp, by simp [hs2, bytesD]⟩
        · rw [if_neg hsp] at hs2; simp -implicitDefEqProofs [h0, h5, h6, h7, h4, hil, hil']; refine callK (nspecialR_fn w[i]) ?_; simp -implicitDefEqProofs [h0, h5, h6, h7, h4, hil, hil', hsp]; (repeat refine And.intro (by first | omega | (simp [bytesD]; omega)) ?_); exact again hil ⟨by simp [h0], by simp [h5], by simp [h6], by simp, by simp [hs2, bytesD]⟩
      · have hil' : ¬ (i : Int) < w.length := (by omega); rw [ttl (by omega)] at h4; simp -implicitDefEqProofs [h0, h5, h6, h7, h4, hil, hil']; (repeat refine ai (by omega) ?_); exact again hlt ⟨by simp [h0], by simp, by simp [hs, h4], hI, fun a b h => hA3 _ h⟩
    · have hP : fmtP l k n = fmtT l k ++ [44] ++ (lower n ++ [61]) := by rw [fmtP, if_neg hk0]
      have z0 : (0 : Int) < (k : Int) := (by omega); have z1 : 0 < k := (by omega); have hPb : bytesD (fmtT l k) ++ D.int .u8 44 :: (bytesD (lower n) ++ [D.int .u8 61]) = bytesD (fmtP l k n) := by rw [hP]; simp [bytesD]
      simp -implicitDefEqProofs [h0, h5, h4, hlt, hlt', hr, pairD, hc, z0, z1]; (repeat refine And.intro (by first | omega | (simp [bytesD]; omega)) ?_); refine callK c3 ?_; simp -implicitDefEqProofs [h0, h5, h4, hlt, hlt', hr, pairD]; (repeat refine And.intro (by first | omega | (simp [bytesD, lower_len]; omega)) ?_); refine callK c4 ?_; generalize foldS v = w at *; rw [hPb]; generalize fmtP l k n = P at *; simp -implicitDefEqProofs [h0, h5]; refine loopN w.length (fun i τ => τ 0 = .d (.sl (l.map pairD)) ∧ τ 5 = .d (.int .i64 k) ∧ τ 6 = .d (.str w) ∧ τ 7 = .d (.int .i64 i) ∧ τ 4 = .own false 5 (bytesD (P ++ escV (w.take i)))) ?_ ?_
      · exact ⟨by simp [h0], by simp [h5], by simp, by simp, by simp [escV]⟩
      clear h0 h5 h4 τ; rintro i τ hi ⟨h0, h5, h6, h7, h4⟩; have hel := escV_len (w.take i); rw [List.length_take] at hel; by_cases hil : i < List.length w
      · have hil' : (i : Int) < w.length := (by omega); have hs2 := escV_take hil; by_cases hsp : specB w[i] = true
        · rw [if_pos hsp] at hs2; simp -implicitDefEqProofs [h0, h5, h6, h7, h4, hil, hil']; refine callK (nspecialR_fn w[i]) ?_; simp -implicitDefEqProofs [h0, h5, h6, h7, h4, hil, hil', hsp]; (repeat refine And.intro (by first | omega | (simp [bytesD]; omega)) ?_); exact again hil ⟨by simp [h0], by simp [h5], by simp [h6], by simp, by simp [hs2, bytesD]⟩
        · rw [if_neg hsp] at hs2; simp -implicitDefEqProofs [h0, h5, h6, h7, h4, hil, hil']; refine callK (nspecialR_fn w[i]) ?_; simp -implicitDefEqProofs [h0, h5, h6, h7, h4, hil, hil', hsp]; (repeat refine And.intro (by first | omega | (simp [bytesD]; omega)) ?_); exact again hil ⟨by simp [h0], by simp [h5], by simp [h6], by simp, by simp [hs2, bytesD]⟩
      · have hil' : ¬ (i : Int) < w.length := (by omega); rw [ttl (by omega)] at h4; simp -implicitDefEqProofs [h0, h5, h6, h7, h4, hil, hil']; (repeat refine ai (by omega) ?_); exact again hlt ⟨by simp [h0], by simp, by simp [hs, h4], hI, fun a b h => hA3 _ h⟩
  · have hlt' : ¬ (k : Int) < l.length := (by omega); rw [fmtT_all l hlt] at h4; rw [List.drop_eq_nil_of_le (by omega), pairsE] at hI; rw [formatU, checkU, if_pos hI] at hR; by_cases h8 : 8 < l.length
    · have h8' : (8 : Int) < l.length := (by omega); rw [if_pos h8, if_neg (by omega)] at hR; simp -implicitDefEqProofs [h0, h5, h4, hlt', h8', ← hR]
    · have h8' : ¬ (8 : Int) < l.length := (by omega); rw [if_neg h8, if_pos rfl] at hR; simp -implicitDefEqProofs [h0, h5, h4, hlt', h8', ← hR]
theorem compU_fit {s : Str} {p : Pair} (h : compU s = (p, 0)) : List.length p.1 ≤ 64 ∧ List.length p.2 ≤ 256 := by
  have := compU_ok h; exact ⟨nameB_len this.1, cleanB_len this.2⟩
theorem compsU_err : ∀ {ps : List Str} {out : List Pair}, (compsU out ps).2 ≠ 0 → (compsU out ps).1 = []
  | [], out, h => by
    simp only [compsU] at h ⊢; split
    · rfl
    · rename_i h8; rw [if_neg h8] at h; exact absurd rfl h
  | p :: ps, out, h => by
    simp only [compsU] at h ⊢; by_cases h0 : (compU p).2 = 0
    · rw [if_pos h0] at h ⊢; exact compsU_err h
    · rw [if_neg h0]
theorem parseU_err {s : Str} (h : (parseU s).2 ≠ 0) : (parseU s).1 = [] := by
  unfold parseU at h ⊢; split
  · rfl
  · rename_i hs; rw [if_neg hs] at h; exact compsU_err h
theorem parseU_fit (s : Str) : (parseU s).1.length ≤ 8 ∧ ∀ p ∈ (parseU s).1, List.length p.1 ≤ 64 ∧ List.length p.2 ≤ 256 := by
  by_cases h : (parseU s).2 = 0
  · unfold parseU at h ⊢; split
    · simp
    · rename_i hs
      rw [if_neg hs] at h; have hc : compsU [] (piecesU s) = ((compsU [] (piecesU s)).1, 0) := by rw [← h]
      obtain ⟨qs, hr, hl, h8, hq⟩ := compsU_inv hc; refine ⟨h8, fun p hp => ?_⟩; rw [hr, List.nil_append] at hp; obtain ⟨i, hi, rfl⟩ := List.getElem_of_mem hp; exact compU_fit (hq i (by omega) hi)
  · rw [parseU_err h]; simp
theorem parseU_fitN (s : Str) : FitN (parseU s).1 := by
  obtain ⟨h1, h2⟩ := parseU_fit s; exact ⟨by omega, fun p hp => by have := h2 p hp; omega⟩
theorem normU_eq (s : Str) : normU s = if validU s = true then some (parseU s).1 else none := by
  unfold validU; by_cases h : (parseU s).2 = 0 ∧ formatU (parseU s).1 = (s, 0)
  · have e : normU s = some (parseU s).1 := by rw [normU, if_pos h]
    rw [e]; rfl
  · have e : normU s = none := by rw [normU, if_neg h]
    rw [e]; rfl
theorem validU_eq (s : Str) : validU s = (decide ((parseU s).2 = 0) && (decide ((formatU (parseU s).1).2 = 0) && decide ((formatU (parseU s).1).1 = s))) := by
  unfold validU normU; by_cases h1 : (parseU s).2 = 0
  · by_cases h2 : (formatU (parseU s).1).2 = 0
    · by_cases h3 : (formatU (parseU s).1).1 = s
      · have e : formatU (parseU s).1 = (s, 0) := by rw [← h2]; exact Prod.ext h3 rfl
        rw [if_pos ⟨h1, e⟩, decide_eq_true h1, decide_eq_true h2, decide_eq_true h3]; rfl
      · have e : ¬ formatU (parseU s).1 = (s, 0) := fun q => h3 (by rw [q])
        rw [if_neg fun q => e q.2, decide_eq_true h1, decide_eq_true h2, decide_eq_false h3]; rfl
    · have e : ¬ formatU (parseU s).1 = (s, 0) := fun q => h2 (by rw [q])
      rw [if_neg fun q => e q.2, decide_eq_true h1, decide_eq_false h2]; rfl
  · rw [if_neg fun q => h1 q.1, decide_eq_false h1]; rfl
theorem nnormal_fn (s : Str) (hs : List.length s < 900000) : Ctr prog 102 [.d (.str s)] (.tup [.d (pairs (parseU s).1), .d (.bool (validU s))]) := by
  refine fn_of_vwpN (rv := .tmp 2) (rs := [.tmp 3]) (r := .d (pairs (parseU s).1)) (ys := [.d (.bool (validU s))]) (fun i => false) (by kernel_rfl) func102 (by kernel_rfl) rfl rfl (by simp) (nbl rfl) (by kernel_rfl) rfl rfl ?_; have c1 := nparse_fn s hs; have c2 := nformat_fn (parseU s).1 (parseU_fitN s); have he := parseU_err (s := s); rw [validU_eq]; obtain ⟨⟨l, e⟩, hP⟩ : ∃ r, parseU s = r := ⟨_, rfl⟩; rw [hP] at c1 c2 he ⊢; simp only [pairs] at *; generalize formatU l = G at *; obtain ⟨t, g⟩ := G; simp -implicitDefEqProofs; refine callK c1 ?_; by_cases h0 : e = 0
  · simp -implicitDefEqProofs [h0]; refine callK c2 ?_; by_cases h1 : g = 0
    · simp -implicitDefEqProofs [h1]
    · simp -implicitDefEqProofs [h1]
  · have := he h0; subst this; simp -implicitDefEqProofs [h0]
theorem nvalid_fn (s : Str) (hs : List.length s < 900000) : Ctr prog 54 [.d (.str s)] (.d (.bool (validU s))) := by
  refine fv (fun _ => false) func54 (by kernel_rfl) rfl rfl rfl rfl rfl ?_; have c1 := nnormal_fn s hs; simp only [pairs] at c1; simp -implicitDefEqProofs; refine callK c1 ?_; simp -implicitDefEqProofs
theorem depthU_eq (s : Str) : depthU s = if validU s = true then (parseU s).1.length else 0 := by
  rw [depthU, normU_eq]; split <;> rfl
theorem ndepth_fn (s : Str) (hs : List.length s < 900000) : Ctr prog 107 [.d (.str s)] (.d (.int .i64 (depthU s))) := by
  refine fv (fun _ => false) func107 (by kernel_rfl) rfl rfl rfl rfl rfl ?_; have c1 := nnormal_fn s hs; rw [depthU_eq]; simp only [pairs] at c1; by_cases hv : validU s = true
  · simp -implicitDefEqProofs; refine callK c1 ?_; simp -implicitDefEqProofs [hv]
  · simp -implicitDefEqProofs; refine callK c1 ?_; simp -implicitDefEqProofs [hv]
theorem eqN_fn (l m : List Pair) (hl : l.length < 1000000) (hm : m.length < 1000000) : Ctr prog 156 [.d (pairs l), .d (pairs m)] (.d (.bool (decide (l = m)))) := by
  refine fv (fun _ => false) func156 (by kernel_rfl) rfl rfl rfl rfl rfl ?_; by_cases hlm : l.length = m.length
  · simp -implicitDefEqProofs [pairs, hlm]; refine loopN m.length (fun k τ => τ 0 = .d (pairs l) ∧ τ 1 = .d (pairs m) ∧ τ 12 = .d (.int .i64 m.length) ∧ τ 13 = .d (.int .i64 k) ∧ l.take k = m.take k) (by simp [pairs, hlm]) ?_; rintro k τ hk ⟨h0, h1, h12, h13, ht⟩; by_cases hlt : k < m.length
    · have hlt' : k < l.length := (by omega); have e1 := take_s hlt; have e2 := take_s hlt'; have hne : l[k] ≠ m[k] → l ≠ m := by rintro h rfl; exact h rfl
      generalize hx : l[k] = x at *; generalize hy : m[k] = y at *; obtain ⟨a, b⟩ := x; obtain ⟨a', b'⟩ := y; by_cases he : (a, b) = (a', b')
      · simp only [Prod.mk.injEq] at he; obtain ⟨rfl, rfl⟩ := he; simp -implicitDefEqProofs [h0, h1, h12, h13, pairs, hlm, hlt, hlt', hx, hy, pairD, leafEq]; (repeat refine ai (by omega) ?_); refine again hlt ⟨by simp [h0, pairs], by simp [h1, pairs], by simp [h12], by simp, ?_⟩; rw [e1, e2, ht]
      · have hn := hne he; simp -implicitDefEqProofs [h0, h1, h12, h13, pairs, hlm, hlt, hlt', hx, hy, pairD, leafEq, hn]; intro q1 q2; exact (he (by rw [q1, q2])).elim
    · simp -implicitDefEqProofs [h0, h1, h12, h13, pairs, hlm, hlt]; rw [ttl (by omega), ttl (by omega)] at ht
      first | exact ⟨by omega, ht⟩ | exact ht
  · have hlm' : ¬ (l.length : Int) = m.length := (by omega); simp -implicitDefEqProofs [pairs, hlm']; rintro rfl; exact hlm rfl
def lastU (l m : List Pair) : Bool := decide (m.length ≤ l.length) && decide (l.drop (l.length - m.length) = m)
theorem nlast_fn (l m : List Pair) (hl : l.length < 1000000) (hm : m.length < 1000000) : Ctr prog 103 [.d (pairs l), .d (pairs m)] (.d (.bool (lastU l m))) := by
  refine fv (fun _ => false) func103 (by kernel_rfl) rfl rfl rfl rfl rfl ?_; by_cases h : m.length ≤ l.length
  · have i0 : (0 : Int) ≤ (l.length : Int) - m.length := (by omega); have j0 : ((l.length : Int) - m.length).toNat = l.length - m.length := (by omega); have i2 : (m.length : Int) ≤ (l.length : Int) := (by omega); have c := eqN_fn (l.drop (l.length - m.length)) m (by simp; omega) hm; have htk : List.take (l.length - (l.length - m.length)) ((l.drop (l.length - m.length)).map pairD) = (l.drop (l.length - m.length)).map pairD := ttl (by simp); have htk2 : List.take (l.length - (l.length - m.length)) (List.drop (l.length - m.length) (l.map pairD)) = (l.drop (l.length - m.length)).map pairD := by rw [← List.map_drop, htk]
    have hle2 : l.length - m.length ≤ l.length := (by omega); simp only [pairs, List.map_drop] at c htk2; simp -implicitDefEqProofs [pairs, i0, j0, i2, htk2, hle2, lastU, h]; (repeat refine ai (by omega) ?_); refine ⟨by rintro _ x y _ rfl; rfl, ?_⟩; refine callK c ?_; simp -implicitDefEqProofs
  · have i0 : ¬ (0 : Int) ≤ (l.length : Int) - m.length := (by omega); have i2 : ¬ (m.length : Int) ≤ (l.length : Int) := (by omega); simp -implicitDefEqProofs [pairs, i0, i2, lastU, h]; try omega
theorem underU_eq (s t : Str) : underU s t = (validU s && (validU t && lastU (parseU s).1 (parseU t).1)) := by
  rw [underU, normU_eq, normU_eq]; cases validU s <;> cases validU t <;> simp [lastU]
theorem nunder_fn (s t : Str) (hs : List.length s < 900000) (ht : List.length t < 900000) : Ctr prog 55 [.d (.str s), .d (.str t)] (.d (.bool (underU s t))) := by
  refine fv (fun _ => false) func55 (by kernel_rfl) rfl rfl rfl rfl rfl ?_; have c1 := nnormal_fn s hs; have c2 := nnormal_fn t ht; have c3 := nlast_fn (parseU s).1 (parseU t).1 (parseU_fitN s).1 (parseU_fitN t).1; rw [underU_eq]; generalize (parseU s).1 = l at *; generalize (parseU t).1 = m at *; generalize lastU l m = b at *; simp only [pairs] at c1 c2 c3; by_cases h1 : validU s = true
  · by_cases h2 : validU t = true
    · simp -implicitDefEqProofs; refine callK c1 ?_; simp -implicitDefEqProofs; refine callK c2 ?_; simp -implicitDefEqProofs [h1, h2]; refine callK c3 ?_; simp -implicitDefEqProofs [h1, h2]
    · simp -implicitDefEqProofs; refine callK c1 ?_; simp -implicitDefEqProofs; refine callK c2 ?_; simp -implicitDefEqProofs [h1, h2]
  · simp -implicitDefEqProofs; refine callK c1 ?_; simp -implicitDefEqProofs; refine callK c2 ?_; simp -implicitDefEqProofs [h1]
def cleanU (s : Str) : Str × Int := if (parseU s).2 = 0 then formatU (parseU s).1 else ([], (parseU s).2)
theorem ncleanR_fn (s : Str) (hs : List.length s < 900000) : Ctr prog 34 [.d (.str s)] (.tup [.d (.str (cleanU s).1), .d (.int .i64 (cleanU s).2)]) := by
  refine fn_of_vwpN (rv := .tmp 2) (rs := [.tmp 3]) (r := .d (.str (cleanU s).1)) (ys := [.d (.int .i64 (cleanU s).2)]) (fun i => false) (by kernel_rfl) func34 (by kernel_rfl) rfl rfl (by simp) (nbl rfl) (by kernel_rfl) rfl rfl ?_; have c1 := nparseR_fn s hs; have c2 := nformatR_fn (parseU s).1 (parseU_fitN s); unfold cleanU; obtain ⟨⟨l, e⟩, hP⟩ : ∃ r, parseU s = r := ⟨_, rfl⟩; rw [hP] at c1 c2 ⊢; simp only [pairs] at *; generalize formatU l = G at *; obtain ⟨t, g⟩ := G; simp -implicitDefEqProofs; refine callK c1 ?_; by_cases h0 : e = 0
  · simp -implicitDefEqProofs [h0]; refine callK c2 ?_; simp -implicitDefEqProofs
  · simp -implicitDefEqProofs [h0]
theorem validU_clean (s : Str) : validU s = (decide ((cleanU s).2 = 0) && decide ((cleanU s).1 = s)) := by
  rw [validU_eq, cleanU]; by_cases h : (parseU s).2 = 0
  · rw [if_pos h]; simp [h]
  · rw [if_neg h]; simp [h]
theorem nvalidR_fn (s : Str) (hs : List.length s < 900000) : Ctr prog 58 [.d (.str s)] (.d (.bool (validU s))) := by
  refine fv (fun _ => false) func58 (by kernel_rfl) rfl rfl rfl rfl rfl ?_; have c1 := ncleanR_fn s hs; rw [validU_clean]; generalize cleanU s = G at *; obtain ⟨t, g⟩ := G; simp -implicitDefEqProofs; refine callK c1 ?_; by_cases h0 : g = 0
  · simp -implicitDefEqProofs [h0]
  · simp -implicitDefEqProofs [h0]
def partsU (s : Str) : List Pair := (normU s).getD []
theorem partsU_eq (s : Str) : partsU s = if validU s = true then (parseU s).1 else [] := by
  rw [partsU, normU_eq]; split <;> rfl
theorem nparts_fn (s : Str) (hs : List.length s < 900000) : Ctr prog 90 [.d (.str s)] (.tup [.d (pairs (partsU s)), .d (.bool (validU s))]) := by
  refine fn_of_vwpN (rv := .tmp 2) (rs := [.tmp 3]) (r := .d (pairs (partsU s))) (ys := [.d (.bool (validU s))]) (fun i => false) (by kernel_rfl) func90 (by kernel_rfl) rfl rfl (by simp) (nbl rfl) (by kernel_rfl) rfl rfl ?_; have c1 := nvalidR_fn s hs; have c2 := nparseR_fn s hs; rw [partsU_eq]; simp only [pairs] at *; simp -implicitDefEqProofs; refine callK c1 ?_; by_cases hv : validU s = true
  · simp -implicitDefEqProofs [hv]; refine callK c2 ?_; simp -implicitDefEqProofs [hv]
  · simp -implicitDefEqProofs [hv]
theorem partsU_fitN (s : Str) : FitN (partsU s) := by
  rw [partsU_eq]; split
  · exact parseU_fitN s
  · exact ⟨by simp, by simp⟩
theorem partsU_len (s : Str) : (partsU s).length = depthU s := rfl
theorem ndepthR_fn (s : Str) (hs : List.length s < 900000) : Ctr prog 108 [.d (.str s)] (.d (.int .i64 (depthU s))) := by
  refine fv (fun _ => false) func108 (by kernel_rfl) rfl rfl rfl rfl rfl ?_; have c1 := nparts_fn s hs; rw [← partsU_len]; simp only [pairs] at c1; simp -implicitDefEqProofs; refine callK c1 ?_; simp -implicitDefEqProofs
theorem nunderR_fn (s t : Str) (hs : List.length s < 900000) (ht : List.length t < 900000) : Ctr prog 41 [.d (.str s), .d (.str t)] (.d (.bool (underU s t))) := by
  refine fv (fun _ => false) func41 (by kernel_rfl) rfl rfl rfl rfl rfl ?_; have c1 := nparts_fn s hs; have c2 := nparts_fn t ht; obtain ⟨f1, f2⟩ := partsU_fitN s; obtain ⟨f3, f4⟩ := partsU_fitN t; have c3 := nformatR_fn ((partsU s).drop ((partsU s).length - (partsU t).length)) ⟨by simp; omega, fun p hp => f2 p (List.mem_of_mem_drop hp)⟩; have hu : validU s = true → validU t = true → (partsU t).length ≤ (partsU s).length → underU s t = decide ((formatU ((partsU s).drop ((partsU s).length - (partsU t).length))).1 = t) := by
    intro h1 h2 h3; have e1 : normU s = some (partsU s) := by rw [normU_eq, if_pos h1, partsU_eq, if_pos h1]
    have e2 : normU t = some (partsU t) := by rw [normU_eq, if_pos h2, partsU_eq, if_pos h2]
    have := under_fmt e1 e2 h3; rw [underU, e1, e2]; simp only [decide_eq_true h3, Bool.true_and]; exact decide_eq_decide.2 this.symm
  have hn1 : validU s = false → underU s t = false := fun h => by rw [underU_eq, h]; rfl
  have hn2 : validU t = false → underU s t = false := fun h => by rw [underU_eq, h]; simp
  have hn3 : ¬ (partsU t).length ≤ (partsU s).length → underU s t = false := fun h => by
    by_cases h1 : validU s = true
    · by_cases h2 : validU t = true
      · rw [underU_eq, lastU]; rw [partsU_eq, if_pos h2, partsU_eq, if_pos h1] at h; simp [h]
      · exact hn2 (by simpa using h2)
    · exact hn1 (by simpa using h1)
  generalize underU s t = U at *; generalize partsU s = l at *; generalize partsU t = m at *; simp only [pairs] at c1 c2; by_cases h1 : validU s = true
  · by_cases h2 : validU t = true
    · by_cases h : m.length ≤ l.length
      · rw [hu h1 h2 h]; have i0 : (0 : Int) ≤ (l.length : Int) - m.length := (by omega); have j0 : ((l.length : Int) - m.length).toNat = l.length - m.length := (by omega); have i2 : ¬ (l.length : Int) < (m.length : Int) := (by omega); have htk2 : List.take (l.length - (l.length - m.length)) (List.drop (l.length - m.length) (l.map pairD)) = (l.drop (l.length - m.length)).map pairD := by
          rw [← List.map_drop]; exact ttl (by simp)
        have i3 : (m.length : Int) ≤ (l.length : Int) := (by omega); have hle2 : l.length - m.length ≤ l.length := (by omega); generalize formatU (l.drop (l.length - m.length)) = G at *; obtain ⟨x, g⟩ := G; simp only [pairs, List.map_drop] at c3 htk2; simp -implicitDefEqProofs; refine callK c1 ?_; simp -implicitDefEqProofs; refine callK c2 ?_; simp -implicitDefEqProofs [h1, h2, i0, j0, i2, i3, hle2, htk2]; (repeat refine ai (by omega) ?_); refine ⟨by rintro _ x y _ rfl; rfl, ?_⟩; refine callK c3 ?_; simp -implicitDefEqProofs
      · have hn := hn3 h; have i2 : (l.length : Int) < (m.length : Int) := (by omega); simp -implicitDefEqProofs; refine callK c1 ?_; simp -implicitDefEqProofs; refine callK c2 ?_; simp -implicitDefEqProofs [h1, h2, i2, hn]
    · have hn := hn2 (by simpa using h2); simp -implicitDefEqProofs; refine callK c1 ?_; simp -implicitDefEqProofs; refine callK c2 ?_; simp -implicitDefEqProofs [h1, h2, hn]
  · have hn := hn1 (by simpa using h1); simp -implicitDefEqProofs; refine callK c1 ?_; simp -implicitDefEqProofs; refine callK c2 ?_; simp -implicitDefEqProofs [h1, hn]
end Go.Proofs.Tz
namespace Go.Proofs.Tz
open Go.Vw
def idxG {α : Type} (p : α → Bool) : Nat → List α → Int
  | _, [] => -1
  | k, x :: l => if p x = true then k else idxG p (k + 1) l
theorem idxG_drop {α : Type} {p : α → Bool} {l : List α} {k : Nat} (h : k < l.length) : idxG p k (l.drop k) = if p l[k] = true then (k : Int) else idxG p (k + 1) (l.drop (k + 1)) := by
  rw [List.drop_eq_getElem_cons h, idxG]
theorem index_fn (l : List Str) (s : Str) (hl : l.length < 1000000) : Ctr prog 115 [.d (strs l), .d (.str s)] (.d (.int .i64 (idxG (fun x => decide (s = x)) 0 l))) := by
  refine fv (fun _ => false) func115 (by kernel_rfl) rfl rfl rfl rfl rfl ?_; simp -implicitDefEqProofs [strs]; refine loopN l.length (fun k τ => τ 0 = .d (strs l) ∧ τ 1 = .d (.str s) ∧ τ 7 = .d (.int .i64 l.length) ∧ τ 8 = .d (.int .i64 k) ∧ idxG (fun x => decide (s = x)) 0 l = idxG (fun x => decide (s = x)) k (l.drop k)) (by simp [strs]) ?_; rintro k τ hk ⟨h0, h1, h7, h8, hi⟩; by_cases hlt : k < l.length
  · rw [idxG_drop hlt] at hi; by_cases he : s = l[k]
    · simp -implicitDefEqProofs [h0, h1, h7, h8, strs, hlt, ← he]; rw [hi]; simp [← he]
    · simp -implicitDefEqProofs [h0, h1, h7, h8, strs, hlt, he]; refine ⟨by omega, again hlt ⟨by simp [h0, strs], by simp [h1], by simp [h7], by simp, ?_⟩⟩; rw [hi]; simp [he]
  · simp -implicitDefEqProofs [h0, h1, h7, h8, strs, hlt]; rw [hi, List.drop_eq_nil_of_le (by omega)]; simp -implicitDefEqProofs [idxG]
theorem idxG_ge {α : Type} (p : α → Bool) : ∀ (l : List α) (k : Nat), (0 ≤ idxG p k l) = (∃ x ∈ l, p x = true)
  | [], k => by simp [idxG]
  | x :: l, k => by
    rw [idxG]; by_cases h : p x = true
    · simp -implicitDefEqProofs [h]
    · rw [if_neg h, idxG_ge p l (k + 1)]; simp [h]
theorem contains_fn (l : List Str) (s : Str) (hl : l.length < 1000000) : Ctr prog 66 [.d (strs l), .d (.str s)] (.d (.bool (decide (s ∈ l)))) := by
  refine fv (fun _ => false) func66 (by kernel_rfl) rfl rfl rfl rfl rfl ?_; simp -implicitDefEqProofs; refine callK (index_fn l s hl) ?_; simp -implicitDefEqProofs [idxG_ge]
theorem indexA_fn (g : FuncId) (cs : List D) (hcs : (cs.all fun c => !c.isAgg) = true) (p : Att → Bool) (l : List Att) (hl : l.length < 1000000) (hp : ∀ a ∈ l, Ctr prog g ([.d (att a)] ++ cs.map .d) (.d (.bool (p a)))) :
    Ctr prog 91 [.d (atts l), .d (.clo g cs)] (.d (.int .i64 (idxG p 0 l))) := by
  refine fv (fun _ => false) func91 (by kernel_rfl) rfl rfl rfl rfl rfl ?_; simp -implicitDefEqProofs [atts]; refine loopN l.length (fun k τ => τ 0 = .d (atts l) ∧ τ 1 = .d (.clo g cs) ∧ τ 7 = .d (.int .i64 l.length) ∧ τ 8 = .d (.int .i64 k) ∧ idxG p 0 l = idxG p k (l.drop k)) (by simp [atts]) ?_; rintro k τ hk ⟨h0, h1, h7, h8, hi⟩; by_cases hlt : k < l.length
  · rw [idxG_drop hlt] at hi; have hf := hp _ (gmm hlt); simp only [att, strs, List.cons_append, List.nil_append] at hf; simp -implicitDefEqProofs [h0, h1, h7, h8, atts, att, strs, hlt]; refine ⟨by simpa using hcs, callK hf ?_⟩; by_cases he : p l[k] = true
    · simp -implicitDefEqProofs [h0, h1, h7, h8, atts, att, strs, hlt, he]; rw [hi, if_pos he]
    · simp -implicitDefEqProofs [h0, h1, h7, h8, atts, att, strs, hlt, he]; refine ⟨by omega, again hlt ⟨by simp [h0, atts, att, strs], by simp [h1], by simp [h7], by simp, ?_⟩⟩; rw [hi, if_neg he]
  · simp -implicitDefEqProofs [h0, h1, h7, h8, atts, hlt]; rw [hi, List.drop_eq_nil_of_le (by omega)]; simp -implicitDefEqProofs [idxG]
abbrev Sl := Option Addr × Nat × Nat
def rw2 (x : Str × Sl) : D := .agg [.str x.1, .raw (.slice x.2.1 x.2.2.1 x.2.2.2)]
def idxR {α : Type} (p : α → Bool) : Nat → List α → Int
  | _, [] => -1
  | k, x :: l => if p x then k else idxR p (k + 1) l
theorem idxR_drop {α : Type} {p : α → Bool} {l : List α} {k : Nat} (h : k < l.length) : idxR p k (l.drop k) = if p l[k] then (k : Int) else idxR p (k + 1) (l.drop (k + 1)) := by
  rw [List.drop_eq_getElem_cons h, idxR]
theorem indexR_fn (g : FuncId) (cs : List D) (hcs : (cs.all fun c => !c.isAgg) = true) (p : Str × Sl → Bool) (l : List (Str × Sl)) (hl : l.length < 1000000) (hp : ∀ a ∈ l, Ctr prog g ([.d (rw2 a)] ++ cs.map .d) (.d (.bool (p a)))) :
    Ctr prog 91 [.d (.sl (l.map rw2)), .d (.clo g cs)] (.d (.int .i64 (idxR p 0 l))) := by
  refine fv (fun _ => false) func91 (by kernel_rfl) rfl rfl rfl rfl rfl ?_; simp -implicitDefEqProofs; refine loopN l.length (fun k τ => τ 0 = .d (.sl (l.map rw2)) ∧ τ 1 = .d (.clo g cs) ∧ τ 7 = .d (.int .i64 l.length) ∧ τ 8 = .d (.int .i64 k) ∧ idxR p 0 l = idxR p k (l.drop k)) (by simp) ?_; rintro k τ hk ⟨h0, h1, h7, h8, hi⟩; by_cases hlt : k < l.length
  · rw [idxR_drop hlt] at hi; have hf := hp _ (gmm hlt); simp only [rw2, List.cons_append, List.nil_append] at hf; simp -implicitDefEqProofs [h0, h1, h7, h8, rw2, hlt]; refine ⟨by simpa using hcs, callK hf ?_⟩; by_cases he : p l[k] = true
    · simp -implicitDefEqProofs [h0, h1, h7, h8, rw2, hlt, he]; rw [hi, if_pos he]
    · simp -implicitDefEqProofs [h0, h1, h7, h8, rw2, hlt, he]; refine ⟨by omega, again hlt ⟨by simp [h0, rw2], by simp [h1], by simp [h7], by simp, ?_⟩⟩; rw [hi, if_neg he]
  · simp -implicitDefEqProofs [h0, h1, h7, h8, hlt]; rw [hi, List.drop_eq_nil_of_le (by omega)]; simp -implicitDefEqProofs [idxR]
theorem idxR_neg {α : Type} (p : α → Bool) : ∀ (l : List α) (k : Nat), idxR p k l = -1 → l.filter (fun x => !p x) = l
  | [], k, _ => rfl
  | x :: l, k, h => by
    rw [idxR] at h; by_cases hx : p x = true
    · rw [if_pos hx] at h; omega
    · rw [if_neg hx] at h; simp -implicitDefEqProofs [hx, idxR_neg p l (k + 1) h]
theorem idxR_pos {α : Type} (p : α → Bool) : ∀ (l : List α) (k : Nat), idxR p k l ≠ -1 → ∃ i : Nat, idxR p k l = ((k + i : Nat) : Int) ∧ i < l.length ∧ (l.take i).filter (fun x => !p x) = l.take i ∧ (l.take (i + 1)).filter (fun x => !p x) = l.take i
  | [], k, h => absurd rfl h
  | x :: l, k, h => by
    rw [idxR] at h ⊢; by_cases hx : p x = true
    · rw [if_pos hx]; exact ⟨0, by simp, by simp, by simp, by simp [hx]⟩
    · rw [if_neg hx] at h ⊢; obtain ⟨i, h1, h2, h3, h4⟩ := idxR_pos p l (k + 1) h; refine ⟨i + 1, by rw [h1]; omega, by simpa using h2, ?_, ?_⟩
      · simp -implicitDefEqProofs [hx, h3]
      · rw [List.take_succ_cons, List.filter_cons, if_pos (by simp [hx]), h4, List.take_succ_cons]
theorem deleteR_fn (g : FuncId) (cs : List D) (hcs : (cs.all fun c => !c.isAgg) = true) (p : Str × Sl → Bool) (l : List (Str × Sl)) (hl : l.length < 1000000) (hp : ∀ a ∈ l, Ctr prog g ([.d (rw2 a)] ++ cs.map .d) (.d (.bool (p a)))) :
    Ctr prog 93 [.own true 89 (l.map rw2), .d (.clo g cs)] (.own true 89 ((l.filter fun x => !p x).map rw2)) := by
  refine fv (fun i => i == 2000010) func93 (by kernel_rfl) rfl rfl rfl rfl rfl ?_; simp -implicitDefEqProofs; refine ⟨_, rfl, indexR_fn g cs hcs p l hl hp, ?_⟩; by_cases hn : idxR p 0 l = -1
  · simp -implicitDefEqProofs [hn, idxR_neg p l 0 hn]
  · obtain ⟨i, h1, h2, h3, h4⟩ := idxR_pos p l 0 hn; simp only [Nat.zero_add] at h1; have e1 : ¬ ((i : Int) = -1) := (by omega); simp -implicitDefEqProofs [h1, e1]; refine ⟨by omega, ?_⟩; refine loopK (fun n τ => ∃ (j q : Nat) (m : List (Str × Sl)), n = l.length - j ∧ j ≤ l.length ∧ τ 0 = .own true 89 (m.map rw2) ∧ τ 1 = .d (.clo g cs) ∧ τ 5 = .d (.int .i64 q) ∧ τ 6 = .d (.int .i64 j) ∧ m.length = l.length ∧ q < j ∧ m.take q = (l.take j).filter (fun x => !p x) ∧ m.drop j = l.drop j)
      (l.length - (i + 1)) ⟨i + 1, i, l, rfl, by omega, by simp, by simp, by simp, by simp, rfl, by omega, h4.symm, rfl⟩ ?_
    rintro n τ ⟨j, q, m, rfl, hj, g0, g1, g5, g6, hm, hq, ht, hd⟩; by_cases hlt : j < l.length
    · have hmj : m[j]'(by omega) = l[j] := by
        have := congrArg (fun x : List (Str × Sl) => x[0]?) hd; simpa [hlt, hm] using this
      have hf := hp _ (gmm hlt); simp only [rw2, List.cons_append, List.nil_append] at hf; have hlt' : (j : Int) < l.length := (by omega); have hf' := hf; simp -implicitDefEqProofs [g0, g1, g5, g6, hm, hlt', hlt, rw2, hmj]; refine ⟨by simpa using hcs, callK hf ?_⟩; by_cases he : p l[j] = true
      · simp -implicitDefEqProofs [g0, g1, g5, g6, hm, hlt', hlt, rw2, hmj, he]; refine ⟨by omega, _, ?_, j + 1, rfl, by omega, q, m, rfl, rfl, by omega, hm, by omega, ?_, ?_⟩
        · omega
        · rw [take_s hlt, List.filter_append, ht]; simp [he]
        · rw [← List.drop_drop, hd, List.drop_drop]
      · have hq2 : q < m.length := (by omega); have hqq : m[q]? = some m[q] := List.getElem?_eq_getElem hq2; simp -implicitDefEqProofs [g0, g1, g5, g6, hm, hlt', hlt, rw2, hmj, he, hqq]; refine ⟨by omega, by omega, by omega, _, ?_, j + 1, rfl, by omega, q + 1, m.set q l[j], ?_, by simp, by simp, by simpa using hm, by omega, ?_, ?_⟩
        · omega
        · rw [List.map_set]; rfl
        · rw [List.take_set, take_s hq2, List.set_append_right _ _ (by simp; omega)]; simp only [List.length_take, Nat.min_eq_left (Nat.le_of_lt hq2), Nat.sub_self, List.set_cons_zero]; rw [take_s hlt, List.filter_append, ht]; simp [he]
        · rw [List.drop_set_of_lt (by omega), ← List.drop_drop, hd, List.drop_drop]
    · simp -implicitDefEqProofs [g0, g1, g5, g6, hm, hlt]; have hjl : j = l.length := (by omega); subst hjl; refine ⟨by omega, by omega, ?_⟩; rw [List.take_append_of_le_length (by simp; omega), List.take_take, Nat.min_self, ← List.map_take, ht, List.take_length]
end Go.Proofs.Tz
/-
  DERIVED: THE SHELF's CONTRACTS AT THIS DUMP, IN PLAIN WORDS (tools/lay-plain.mjs out of 'JcShP.lean', which tools/lay-shelf.mjs wrote): THE SAME DECLARATIONS UNDER THE SAME NAMES: 'import', 'namespace', 'open', 'def', 'theorem' AND NOTHING ELSE: no command of the shelf's: FOR A HAND-IN. Each laying: the table of numbers ('.._ren') and one theorem, a field a fact of the dump's own or the kernel's comparison; each contract: ONE APPLICATION.
-/
namespace Go.Proofs
open Go.Shelf
def Tryz.layS_ren : Go.Shelf.Ren := ⟨fun | 6 => 48 | 8 => 100 | 9 => 99 | 19 => 153 | 20 => 154 | 21 => 144 | 22 => 145 | 23 => 146 | 24 => 147 | 25 => 148 | 26 => 149 | 27 => 150 | 28 => 151 | 29 => 152 | 36 => 193 | 31 => 194 | 32 => 195 | 37 => 196 | 38 => 197 | 39 => 176 | 41 => 218 | n => n, fun | 27 => 33 | 29 => 9 | 3 => 3 | 32 => 137 | 26 => 33 | 0 => 0 | 44 => 176 | 46 => 178 | 4 => 4 | 36 => 169 | 35 => 168 | 41 => 173 | 5 => 5 | 9 => 9 | 53 => 208 | 57 => 212 | 63 => 228 | 64 => 229 | n => n, fun | n => n⟩
theorem Tryz.layS : Go.Proofs.SlLaysM.n6 prog Tryz.layS_ren := {
  mixed := by kernel_rfl
  f6 := ⟨Tryz.f48.name, by decide, func48.trans (congrArg some (by kernel_rfl))⟩
  f8 := func100.trans (congrArg some (by kernel_rfl))
  f9 := ⟨Tryz.f99.name, by decide, func99.trans (congrArg some (by kernel_rfl))⟩
  f19 := func153.trans (congrArg some (by kernel_rfl))
  f20 := func154.trans (congrArg some (by kernel_rfl))
  f21 := ⟨Tryz.f144.name, by decide, func144.trans (congrArg some (by kernel_rfl))⟩
  f22 := ⟨Tryz.f145.name, by decide, func145.trans (congrArg some (by kernel_rfl))⟩
  f23 := ⟨Tryz.f146.name, by decide, func146.trans (congrArg some (by kernel_rfl))⟩
  f24 := ⟨Tryz.f147.name, by decide, func147.trans (congrArg some (by kernel_rfl))⟩
  f25 := ⟨Tryz.f148.name, by decide, func148.trans (congrArg some (by kernel_rfl))⟩
  f26 := ⟨Tryz.f149.name, by decide, func149.trans (congrArg some (by kernel_rfl))⟩
  f27 := ⟨Tryz.f150.name, by decide, func150.trans (congrArg some (by kernel_rfl))⟩
  f28 := ⟨Tryz.f151.name, by decide, func151.trans (congrArg some (by kernel_rfl))⟩
  f29 := ⟨Tryz.f152.name, by decide, func152.trans (congrArg some (by kernel_rfl))⟩
  f31 := func194.trans (congrArg some (by kernel_rfl))
  f32 := func195.trans (congrArg some (by kernel_rfl))
  f36 := ⟨Tryz.f193.name, by decide, func193.trans (congrArg some (by kernel_rfl))⟩
  f37 := ⟨Tryz.f196.name, by decide, func196.trans (congrArg some (by kernel_rfl))⟩
  f38 := ⟨Tryz.f197.name, by decide, func197.trans (congrArg some (by kernel_rfl))⟩
  f39 := ⟨Tryz.f176.name, by decide, func176.trans (congrArg some (by kernel_rfl))⟩
  f41 := ⟨Tryz.f218.name, by decide, func218.trans (congrArg some (by kernel_rfl))⟩
  t0 := Tryz.underlying0
  a0 := Tryz.isAgg0
  z0 := Tryz.sizeOf0
  v0 := Tryz.zeroValue0
  t3 := Tryz.underlying3
  a3 := Tryz.isAgg3
  z3 := Tryz.sizeOf3
  v3 := Tryz.zeroValue3
  t4 := Tryz.underlying4
  a4 := Tryz.isAgg4
  z4 := Tryz.sizeOf4
  v4 := Tryz.zeroValue4
  t5 := Tryz.underlying5
  a5 := Tryz.isAgg5
  z5 := Tryz.sizeOf5
  v5 := Tryz.zeroValue5
  t9 := Tryz.underlying9
  a9 := Tryz.isAgg9
  z9 := Tryz.sizeOf9
  v9 := Tryz.zeroValue9
  t26 := Tryz.underlying33
  a26 := Tryz.isAgg33
  z26 := Tryz.sizeOf33
  v26 := Tryz.zeroValue33
  t27 := Tryz.underlying33
  a27 := Tryz.isAgg33
  z27 := Tryz.sizeOf33
  v27 := Tryz.zeroValue33
  t29 := Tryz.underlying9
  a29 := Tryz.isAgg9
  z29 := Tryz.sizeOf9
  v29 := Tryz.zeroValue9
  t32 := Tryz.underlying137
  a32 := Tryz.isAgg137
  z32 := Tryz.sizeOf137
  v32 := Tryz.zeroValue137
  t35 := Tryz.underlying168
  a35 := Tryz.isAgg168
  z35 := Tryz.sizeOf168
  v35 := Tryz.zeroValue168
  t36 := Tryz.underlying169
  a36 := Tryz.isAgg169
  z36 := Tryz.sizeOf169
  v36 := Tryz.zeroValue169
  t41 := Tryz.underlying173
  a41 := Tryz.isAgg173
  z41 := Tryz.sizeOf173
  v41 := Tryz.zeroValue173
  t44 := Tryz.underlying176
  a44 := Tryz.isAgg176
  z44 := Tryz.sizeOf176
  v44 := Tryz.zeroValue176
  t46 := Tryz.underlying178
  a46 := Tryz.isAgg178
  z46 := Tryz.sizeOf178
  v46 := Tryz.zeroValue178
  t53 := Tryz.underlying208
  a53 := Tryz.isAgg208
  z53 := Tryz.sizeOf208
  v53 := Tryz.zeroValue208
  t57 := Tryz.underlying212
  a57 := Tryz.isAgg212
  z57 := Tryz.sizeOf212
  v57 := Tryz.zeroValue212
  t63 := Tryz.underlying228
  a63 := Tryz.isAgg228
  z63 := Tryz.sizeOf228
  v63 := Tryz.zeroValue228
  t64 := Tryz.underlying229
  a64 := Tryz.isAgg229
  z64 := Tryz.sizeOf229
  v64 := Tryz.zeroValue229 }
def Tryz.layF_ren : Go.Shelf.Ren := ⟨fun | 6 => 95 | 15 => 100 | 14 => 141 | 28 => 153 | 29 => 154 | 20 => 182 | 21 => 183 | 22 => 184 | 23 => 185 | 24 => 186 | 25 => 187 | 26 => 188 | 27 => 189 | 46 => 210 | 47 => 194 | 48 => 195 | 49 => 211 | 50 => 212 | 57 => 225 | n => n, fun | 22 => 26 | 24 => 89 | 25 => 132 | 3 => 3 | 39 => 137 | 0 => 0 | 53 => 176 | 55 => 178 | 4 => 4 | 46 => 169 | 45 => 168 | 50 => 173 | 5 => 5 | 9 => 9 | 66 => 208 | 70 => 212 | 76 => 228 | 77 => 229 | n => n, fun | n => n⟩
theorem Tryz.layF : Go.Proofs.SlLaysF0.n6 prog Tryz.layF_ren := {
  mixed := by kernel_rfl
  f6 := ⟨Tryz.f95.name, by decide, func95.trans (congrArg some (by kernel_rfl))⟩
  f14 := ⟨Tryz.f141.name, by decide, func141.trans (congrArg some (by kernel_rfl))⟩
  f15 := func100.trans (congrArg some (by kernel_rfl))
  f20 := ⟨Tryz.f182.name, by decide, func182.trans (congrArg some (by kernel_rfl))⟩
  f21 := ⟨Tryz.f183.name, by decide, func183.trans (congrArg some (by kernel_rfl))⟩
  f22 := ⟨Tryz.f184.name, by decide, func184.trans (congrArg some (by kernel_rfl))⟩
  f23 := ⟨Tryz.f185.name, by decide, func185.trans (congrArg some (by kernel_rfl))⟩
  f24 := ⟨Tryz.f186.name, by decide, func186.trans (congrArg some (by kernel_rfl))⟩
  f25 := ⟨Tryz.f187.name, by decide, func187.trans (congrArg some (by kernel_rfl))⟩
  f26 := ⟨Tryz.f188.name, by decide, func188.trans (congrArg some (by kernel_rfl))⟩
  f27 := ⟨Tryz.f189.name, by decide, func189.trans (congrArg some (by kernel_rfl))⟩
  f28 := func153.trans (congrArg some (by kernel_rfl))
  f29 := func154.trans (congrArg some (by kernel_rfl))
  f46 := ⟨Tryz.f210.name, by decide, func210.trans (congrArg some (by kernel_rfl))⟩
  f47 := func194.trans (congrArg some (by kernel_rfl))
  f48 := func195.trans (congrArg some (by kernel_rfl))
  f49 := ⟨Tryz.f211.name, by decide, func211.trans (congrArg some (by kernel_rfl))⟩
  f50 := ⟨Tryz.f212.name, by decide, func212.trans (congrArg some (by kernel_rfl))⟩
  f57 := ⟨Tryz.f225.name, by decide, func225.trans (congrArg some (by kernel_rfl))⟩
  t0 := Tryz.underlying0
  a0 := Tryz.isAgg0
  z0 := Tryz.sizeOf0
  v0 := Tryz.zeroValue0
  t3 := Tryz.underlying3
  a3 := Tryz.isAgg3
  z3 := Tryz.sizeOf3
  v3 := Tryz.zeroValue3
  t4 := Tryz.underlying4
  a4 := Tryz.isAgg4
  z4 := Tryz.sizeOf4
  v4 := Tryz.zeroValue4
  t5 := Tryz.underlying5
  a5 := Tryz.isAgg5
  z5 := Tryz.sizeOf5
  v5 := Tryz.zeroValue5
  t9 := Tryz.underlying9
  a9 := Tryz.isAgg9
  z9 := Tryz.sizeOf9
  v9 := Tryz.zeroValue9
  t22 := Tryz.underlying26
  a22 := Tryz.isAgg26
  z22 := Tryz.sizeOf26
  v22 := Tryz.zeroValue26
  t25 := Tryz.underlying132
  a25 := Tryz.isAgg132
  z25 := Tryz.sizeOf132
  v25 := Tryz.zeroValue132
  t39 := Tryz.underlying137
  a39 := Tryz.isAgg137
  z39 := Tryz.sizeOf137
  v39 := Tryz.zeroValue137
  t45 := Tryz.underlying168
  a45 := Tryz.isAgg168
  z45 := Tryz.sizeOf168
  v45 := Tryz.zeroValue168
  t46 := Tryz.underlying169
  a46 := Tryz.isAgg169
  z46 := Tryz.sizeOf169
  v46 := Tryz.zeroValue169
  t50 := Tryz.underlying173
  a50 := Tryz.isAgg173
  z50 := Tryz.sizeOf173
  v50 := Tryz.zeroValue173
  t53 := Tryz.underlying176
  a53 := Tryz.isAgg176
  z53 := Tryz.sizeOf176
  v53 := Tryz.zeroValue176
  t55 := Tryz.underlying178
  a55 := Tryz.isAgg178
  z55 := Tryz.sizeOf178
  v55 := Tryz.zeroValue178
  t66 := Tryz.underlying208
  a66 := Tryz.isAgg208
  z66 := Tryz.sizeOf208
  v66 := Tryz.zeroValue208
  t70 := Tryz.underlying212
  a70 := Tryz.isAgg212
  z70 := Tryz.sizeOf212
  v70 := Tryz.zeroValue212
  t76 := Tryz.underlying228
  a76 := Tryz.isAgg228
  z76 := Tryz.sizeOf228
  v76 := Tryz.zeroValue228
  t77 := Tryz.underlying229
  a77 := Tryz.isAgg229
  z77 := Tryz.sizeOf229
  v77 := Tryz.zeroValue229 }
def Tryz.layC_ren : Go.Shelf.Ren := ⟨fun | 44 => 49 | n => n, fun | 25 => 33 | 26 => 9 | 3 => 3 | 4 => 4 | 0 => 0 | n => n, fun | n => n⟩
theorem Tryz.layC : Go.Proofs.SlLaysN.n44 prog Tryz.layC_ren := {
  mixed := by kernel_rfl
  f44 := ⟨Tryz.f49.name, by decide, func49.trans (congrArg some (by kernel_rfl))⟩
  t0 := Tryz.underlying0
  a0 := Tryz.isAgg0
  z0 := Tryz.sizeOf0
  v0 := Tryz.zeroValue0
  t3 := Tryz.underlying3
  a3 := Tryz.isAgg3
  z3 := Tryz.sizeOf3
  v3 := Tryz.zeroValue3
  t4 := Tryz.underlying4
  a4 := Tryz.isAgg4
  z4 := Tryz.sizeOf4
  v4 := Tryz.zeroValue4
  t25 := Tryz.underlying33
  a25 := Tryz.isAgg33
  z25 := Tryz.sizeOf33
  v25 := Tryz.zeroValue33
  t26 := Tryz.underlying9
  a26 := Tryz.isAgg9
  z26 := Tryz.sizeOf9
  v26 := Tryz.zeroValue9
  i26 := by kernel_rfl }
def Tryz.layD_ren : Go.Shelf.Ren := ⟨fun | 46 => 136 | n => n, fun | 25 => 33 | 26 => 9 | 3 => 3 | 4 => 4 | 0 => 0 | n => n, fun | n => n⟩
theorem Tryz.layD : Go.Proofs.SlLaysN.n46 prog Tryz.layD_ren := {
  mixed := by kernel_rfl
  f46 := ⟨Tryz.f136.name, by decide, func136.trans (congrArg some (by kernel_rfl))⟩
  t0 := Tryz.underlying0
  a0 := Tryz.isAgg0
  z0 := Tryz.sizeOf0
  v0 := Tryz.zeroValue0
  t3 := Tryz.underlying3
  a3 := Tryz.isAgg3
  z3 := Tryz.sizeOf3
  v3 := Tryz.zeroValue3
  t4 := Tryz.underlying4
  a4 := Tryz.isAgg4
  z4 := Tryz.sizeOf4
  v4 := Tryz.zeroValue4
  t25 := Tryz.underlying33
  a25 := Tryz.isAgg33
  z25 := Tryz.sizeOf33
  v25 := Tryz.zeroValue33
  t26 := Tryz.underlying9
  a26 := Tryz.isAgg9
  z26 := Tryz.sizeOf9
  v26 := Tryz.zeroValue9
  i26 := by kernel_rfl }
end Go.Proofs
namespace Go.Proofs.Tz
open Go.Vw Go.Sort Go.RowKit
theorem strs_rep (w : World) (L : Nat → Nat → Prop) : ∀ (l : List Str), RepL w L (l.map .str) (l.map fun s => [encStr s])
  | [] => by simp [RepL]
  | s :: l => by
    simp only [List.map_cons, RepL]; exact ⟨_, _, rfl, by simp [Rep, encStr], strs_rep w L l⟩
theorem strs_flat : ∀ (l : List Str), (l.map fun s => [encStr s]).flatten = l.map encStr
  | [] => rfl
  | s :: l => by simp [strs_flat l]
theorem strs_only {w : World} {L : Nat → Nat → Prop} : ∀ {l : List Str} {css : List (List Value)}, RepL w L (l.map .str) css → css = l.map fun s => [encStr s]
  | [], css, h => by simpa [RepL] using h
  | s :: l, css, h => by
    simp only [List.map_cons, RepL] at h; obtain ⟨c, cs, rfl, h1, h2⟩ := h; rw [strs_only h2]; simp only [Rep] at h1; subst h1; rfl
def sortS (l : List Str) : List Str := l.mergeSort fun x y => decide (x ≤ y)
theorem holds_strs {w : World} {g : Nat} {l : List Str} (h : Holds id w g 0 (l.map encStr).toArray) : Holds encStr w g 0 l.toArray := by
  intro j hj; have hj' : j < l.length := (by simpa using hj); have := h j (by simpa using hj'); simpa [hj'] using this
theorem sort_fn (l : List Str) (hl : l.length < 1000000) : CtrI prog 48 9 (l.map .str) [] ((sortS l).map .str) := by
  refine ⟨enters_of func48 (by kernel_rfl) rfl, fun w L og v vals hlok hgl hown hrc => ?_⟩; simp only [RCs] at hrc; subst hrc; obtain ⟨css0, sz0, g1, g2, g3, g4, g5⟩ := id hown; rcases g4.2 with ⟨hv, hn⟩ | ⟨g, cap, cur, hv, _⟩
  · have hl0 : l = [] := (by simpa using hn); subst hl0; subst hv; have h := AnyM.slices_Sort_string_none Tryz.layS none 0 w
    change Calls prog 48 _ _ _ at h
    refine h.mono ?_; rintro e w' ⟨rfl, rfl⟩; exact ⟨L, rfl, GrownS.refl _ _, hlok, fun _ _ _ _ => Iff.rfl, by simpa [sortS] using hown⟩
  · subst hv; obtain ⟨css, h1, h2, h3, h4, h5⟩ := hown.holds; have hcss := strs_only h1; subst hcss; rw [strs_flat] at h3; have h := AnyM.slices_Sort_string Tryz.layS g 0 cap l w (holds_strs h3) h4 (by omega)
    change Calls prog 48 _ _ _ at h
    rw [List.length_map]; refine h.mono ?_; rintro e w' ⟨rfl, n, os, rfl⟩; rw [putRow_map encStr]; have hlen : (sortS l).length = l.length := (by simp [sortS]); have hog := (hown.blk (g := g) rfl).1; have hs := hown.sorted hlok (strs_rep w L (sortS l)) (by simp [hlen]) (fun sz hsz c hc => by
      obtain ⟨s, _, rfl⟩ := List.mem_map.1 hc; rw [show (prog.info? (ety 9)).map (·.size) = some 1 from Tryz.sz_9] at hsz; simpa using hsz) n os (F := ((sortS l).map encStr).toArray) (by rw [strs_flat])
    rw [List.length_map] at hs; have e : (List.map encStr (sortS l)).toArray = Array.map encStr (l.mergeSort fun x y => decide (x ≤ y)).toArray := by simp [sortS]
    rw [sortedW, e] at hs; refine ⟨L, rfl, ?_, hs.2.2, fun _ _ _ _ => Iff.rfl, hs.1⟩; rw [hog]; exact hs.2.1
def encR (x : Str × Sl) : List Value := [encStr x.1, .slice x.2.1 x.2.2.1 x.2.2.2]
theorem rows_rep (w : World) (L : Nat → Nat → Prop) : ∀ (l : List (Str × Sl)), RepL w L (l.map rw2) (l.map encR)
  | [] => by simp [RepL]
  | s :: l => by
    simp only [List.map_cons, RepL]; refine ⟨_, _, rfl, ?_, rows_rep w L l⟩; simp only [rw2, Rep, RepL]; exact ⟨[[encStr s.1], [.slice s.2.1 s.2.2.1 s.2.2.2]], ⟨_, _, rfl, by simp [encStr], _, _, rfl, ⟨rfl, by simp [Value.oneCell'], rfl⟩, rfl⟩, rfl⟩
theorem rows_only {w : World} {L : Nat → Nat → Prop} : ∀ {l : List (Str × Sl)} {css : List (List Value)}, RepL w L (l.map rw2) css → css = l.map encR
  | [], css, h => by simpa [RepL] using h
  | s :: l, css, h => by
    simp only [List.map_cons, RepL] at h; obtain ⟨c, cs, rfl, h1, h2⟩ := h; simp only [rw2, Rep, RepL] at h1; obtain ⟨css, ⟨_, _, rfl, rfl, _, _, rfl, ⟨rfl, h3, h4⟩, rfl⟩, rfl⟩ := h1; rw [rows_only h2]; rfl
def cmpR (x y : Str × Sl) : Int := if Op.bytesLess x.1 y.1 then -1 else 1
end Go.Proofs.Tz
namespace Go.Proofs.Tz
open Go.Vw Go.Sort Go.RowKit Go.Lib
theorem ltR (x y : Str × Sl) : ltOf cmpR x y = Op.bytesLess x.1 y.1 := by
  unfold ltOf cmpR; cases Op.bytesLess x.1 y.1 <;> simp
theorem swoR : SWO (ltOf cmpR) where
  irrefl x := by rw [ltR, bytesLess_eq]; simp
  trans x y z h1 h2 := by
    rw [ltR, bytesLess_eq] at *; simp only [decide_eq_true_eq] at *; exact List.lt_trans h1 h2
  ntrans x y z h1 h2 := by
    rw [ltR, bytesLess_eq] at *; simp only [decide_eq_false_iff_not, List.not_lt] at *; exact List.le_trans h2 h1
theorem cmp_calls (a b : ByteArray) (u v : Value) (W : World) : Calls prog 96 #[.agg #[.string a, u], .agg #[.string b, v]] W fun e w' => e = .returned (.int .i64 (if Op.bytesLess a.toList b.toList then -1 else 1)) ∧ ∃ q os', w' = grow (W.drewN q) os' := by
  cases hb : Op.bytesLess a.toList b.toList
  · go_enter func96, Tryz.ntmps96
    go_wp2
    go_ret
    exact ⟨rfl, 0, _, by rw [alloc_eq_grow, alloc_eq_grow, grow_grow]; rfl⟩
  · go_enter func96, Tryz.ntmps96
    go_wp2
    go_ret
    exact ⟨rfl, 0, _, by rw [alloc_eq_grow, alloc_eq_grow, grow_grow]; rfl⟩
instance : Inhabited (Str × Sl) := ⟨([], none, 0, 0)⟩
def sortR (l : List (Str × Sl)) : List (Str × Sl) := (pdq (ltOf cmpR) l.toArray 0 l.length (Lib.bitLen l.length) true true).toList
theorem sortR_perm (l : List (Str × Sl)) : (sortR l).Perm l ∧ ∀ i j (hij : i < j) (hj : j < (sortR l).length), Op.bytesLess (sortR l)[j].1 ((sortR l)[i]'(by omega)).1 = false := by
  have h := pdq_sorts (ltOf cmpR) swoR l.toArray 0 l.length (Lib.bitLen l.length) true true (Nat.zero_le _) (by simp) (Or.inl rfl); obtain ⟨⟨h1, h2, h3⟩, h4⟩ := h; have hs : (sortR l).length = l.length := (by simpa [sortR] using h1); refine ⟨?_, fun i j hij hj => ?_⟩
  · have e1 : (pdq (ltOf cmpR) l.toArray 0 l.length (Lib.bitLen l.length) true true).extract 0 l.length = pdq (ltOf cmpR) l.toArray 0 l.length (Lib.bitLen l.length) true true := by
      apply Array.extract_eq_self_of_le; rw [h1]; simp
    rw [e1] at h3; simpa [sortR] using h3
  · have := h4 i j (Nat.zero_le _) hij (by omega); rw [ltR] at this; have hj' : j < (pdq (ltOf cmpR) l.toArray 0 l.length (Lib.bitLen l.length) true true).size := (by simpa [sortR] using hj); rw [getElem!_pos _ j hj', getElem!_pos _ i (by omega)] at this; simpa [sortR] using this
theorem flatK_eq {α : Type} [Inhabited α] (enc : α → List Value) (k : Nat) (l : List α) (hk : ∀ x, (enc x).length = k) (hp : 0 < k) : flatK enc k l.toArray = (l.map enc).flatten.toArray := by
  have hfl : (l.map enc).flatten.length = l.length * k := by rw [flatten_sized (fun c hc => by obtain ⟨x, _, rfl⟩ := List.mem_map.1 hc; exact hk x), List.length_map]
  apply Array.ext
  · simp [flatK, hfl]
  · intro t h1 h2; have ht : t < l.length * k := (by simpa [flatK] using h1); have hq : t / k < l.length := Nat.div_lt_of_lt_mul (by rw [Nat.mul_comm]; exact ht); have hr : t % k < (enc l[t / k]).length := by rw [hk]; exact Nat.mod_lt _ hp
    have := flatten_get (css := l.map enc) (sz := k) (fun c hc => by obtain ⟨x, _, rfl⟩ := List.mem_map.1 hc; exact hk x) (i := t / k) (c := enc l[t / k]) (by simp [hq]) (t % k) ((enc l[t / k])[t % k]) (List.getElem?_eq_getElem hr); rw [show t / k * k + t % k = t by rw [Nat.mul_comm]; exact Nat.div_add_mod t k] at this; have e2 := (List.getElem?_eq_some_iff.1 this).2; simp only [flatK, List.size_toArray, Array.getElem_map, Array.getElem_range, List.getElem_toArray]; rw [e2, show (l.toArray[t / k]! : α) = l[t / k] by rw [getElem!_pos l.toArray _ (by simpa using hq)]; simp]; exact getElem!_pos (enc l[t / k]) (t % k) hr
theorem sortR_fn (l : List (Str × Sl)) (hl : l.length < 1000000) : CtrI prog 95 89 (l.map rw2) [.d (.clo 96 [])] ((sortR l).map rw2) := by
  refine ⟨enters_of func95 (by kernel_rfl) rfl, fun w L og v vals hlok hgl hown hrc => ?_⟩; simp only [RCs] at hrc; obtain ⟨cv, us, rfl, hc1, rfl⟩ := hrc; simp only [RC] at hc1; obtain ⟨ccs, hcc, rfl⟩ := clo_inv hc1; simp only [RepL] at hcc; subst hcc; simp only [List.flatten_nil]; obtain ⟨css0, sz0, g1, g2, g3, g4, g5⟩ := id hown; rcases g4.2 with ⟨hv, hn⟩ | ⟨g, cap, cur, hv, _⟩
  · have hl0 : l = [] := (by simpa using hn); subst hl0; subst hv; have h := AnyF.slices_SortFunc_none Tryz.layF none 0 (.func (.func 96) #[] #[]) w
    change Calls prog 95 _ _ _ at h
    refine h.mono ?_; rintro e w' ⟨rfl, rfl⟩; have hnil : sortR [] = [] := List.Perm.eq_nil (sortR_perm []).1; exact ⟨L, rfl, GrownS.refl _ _, hlok, fun _ _ _ _ => Iff.rfl, by rw [hnil]; exact hown⟩
  · subst hv; obtain ⟨css, h1, h2, h3, h4, h5⟩ := hown.holds; have hcss := rows_only h1; subst hcss; have hK : HoldsK encR 2 w g 0 l.toArray := by
      unfold HoldsK; rw [flatK_eq encR 2 l (fun _ => rfl) (by omega)]; exact h3
    have eg : ∀ args w, (callFunc 96 args).run prog w = .ok (.enter 96 args) w := enters_of func96 (by kernel_rfl) rfl; have hcmp : CmpLays prog 96 #[] encR 2 cmpR g 0 l.toArray.size w := fun m os dk _ x y => by
      have := cmp_calls ⟨x.1.toArray⟩ ⟨y.1.toArray⟩ (.slice x.2.1 x.2.2.1 x.2.2.2) (.slice y.2.1 y.2.2.1 y.2.2.2) (sortWorldK encR 2 w g 0 m dk os); simp only [Lib.toList_data] at this; exact this
    have h := AnyQ.slices_SortFunc_eq Tryz.layF 2 Tryz.isAgg89 Tryz.sizeOf89 encR (fun _ => rfl) (fun x v hv => ?_) cmpR swoR 96 #[] g 0 cap l.toArray w eg hcmp hK h4 (by simp; omega)
    · change Calls prog 95 _ _ _ at h
      simp only [List.size_toArray] at h; rw [List.length_map]; refine h.mono ?_; rintro e w' ⟨rfl, n, os, rfl⟩; have hp := (sortR_perm l).1; have hlen : (sortR l).length = l.length := hp.length_eq; have hog := (hown.blk (g := g) rfl).1; have hs := hown.sorted hlok (rows_rep w L (sortR l)) (by simp [hlen]) (fun sz hsz c hc => by
        obtain ⟨s, _, rfl⟩ := List.mem_map.1 hc; rw [show (prog.info? (ety 89)).map (·.size) = some 2 from Tryz.sz_89] at hsz; simpa [encR] using hsz) n os (F := ((sortR l).map encR).flatten.toArray) rfl
      rw [List.length_map] at hs; have e : sortedW w g n ((sortR l).map encR).flatten.toArray os = sortWorldK encR 2 w g 0 n (pdq (ltOf cmpR) l.toArray 0 l.length (Lib.bitLen l.length) true true) os := by
        unfold sortedW sortWorldK putRowK; rw [← flatK_eq encR 2 (sortR l) (fun _ => rfl) (by omega)]; rfl
      rw [e] at hs; refine ⟨L, rfl, ?_, hs.2.2, fun _ _ _ _ => Iff.rfl, hs.1⟩; rw [hog]; exact hs.2.1
    · simp only [encR, List.mem_cons, List.not_mem_nil, or_false] at hv; rcases hv with rfl | rfl <;> rfl
theorem strs_put {w : World} {L : Nat → Nat → Prop} {og : Option Nat} {g cap : Nat} {l : List Str} (hown : OwnR prog w L og true 9 (l.map .str) (.slice (some ⟨g, 0, none⟩) l.length cap)) (hlok : ∀ b q, L b q → b < w.heap.size) (l' : List Str) (hl : l'.length = l.length) (q : Nat) :
    OwnR prog (putRow encStr (Sort.ahead w q) g 0 l'.toArray) L og true 9 (l'.map .str) (.slice (some ⟨g, 0, none⟩) l.length cap) ∧ GrownS w (putRow encStr (Sort.ahead w q) g 0 l'.toArray) (optB (some g)) ∧ ∀ b p, L b p → b < (putRow encStr (Sort.ahead w q) g 0 l'.toArray).heap.size := by
  have hown' : OwnR prog w L og true 9 (l.map .str) (.slice (some ⟨g, 0, none⟩) (l.map D.str).length cap) := by rw [List.length_map]; exact hown
  have hs := hown'.sorted hlok (strs_rep w L l') (by simp [hl]) (fun sz hsz c hc => by
    obtain ⟨s, _, rfl⟩ := List.mem_map.1 hc; rw [show (prog.info? (ety 9)).map (·.size) = some 1 from Tryz.sz_9] at hsz; simpa using hsz) q #[] (F := (l'.map encStr).toArray) (by rw [strs_flat])
  rw [List.length_map] at hs; have e : sortedW w g q (l'.map encStr).toArray #[] = putRow encStr (Sort.ahead w q) g 0 l'.toArray := by
    unfold sortedW; rw [grow_empty, putRow_map encStr]; simp
  rw [e] at hs; exact hs
theorem strs_own {w : World} {L : Nat → Nat → Prop} {og : Option Nat} {l : List Str} {v : Value} (h : OwnR prog w L og true 9 (l.map .str) v) :
    (v = .slice none 0 0 ∧ l = []) ∨ ∃ g cap, v = .slice (some ⟨g, 0, none⟩) l.length cap ∧ l.length ≤ cap ∧ cap ≤ maxLen ∧ Holds encStr w g 0 l.toArray ∧ g < w.heap.size ∧ og = some g := by
  obtain ⟨css0, sz0, g1, g2, g3, g4, g5⟩ := id h; rcases g4.2 with ⟨hv, hn⟩ | ⟨g, cap, cur, hv, hh, hnc, hcm, _⟩
  · exact .inl ⟨hv, by simpa using hn⟩
  · subst hv; obtain ⟨css, h1, h2, h3, h4, h5⟩ := h.holds; have hcss := strs_only h1; subst hcss; rw [strs_flat] at h3; exact .inr ⟨g, cap, by rw [List.length_map], by simpa using hnc, hcm, holds_strs h3, h4, (h.blk (g := g) rfl).1⟩
theorem compact_fn (l : List Str) (hl : l.length < 1000000) : Ctr prog 49 [.own true 9 (l.map .str)] (.own true 9 ((compact l).map .str)) := by
  refine ⟨enters_of func49 (by kernel_rfl) rfl, fun w L og vals hlok hgl hog hrc => ?_⟩; simp only [RCs] at hrc; obtain ⟨v, us, rfl, hown, rfl⟩ := hrc; simp only [RC] at hown; rcases strs_own hown with ⟨rfl, rfl⟩ | ⟨g, cap, rfl, hcap, hcm, hH, hg, hgo⟩
  · have h := AnyG.slices_Compact_string_empty Tryz.layC none 0 w
    change Calls prog 49 _ _ _ at h
    refine h.mono ?_; rintro e w' ⟨rfl, rfl⟩; exact ⟨_, L, og, rfl, GrownS.refl _ _, hlok, fun _ _ _ _ => Iff.rfl, fun g hg => ⟨(hog g hg).1, .inr hg⟩, hown⟩
  · have h := AnyG.slices_Compact_string Tryz.layC g 0 cap l w hH (by omega) hcap
    change Calls prog 49 _ _ _ at h
    refine h.mono ?_; rintro e w' ⟨rfl, q, rfl⟩; have hle := compact_length_le l; have hp := strs_put hown hlok (compact l ++ List.replicate (l.length - (compact l).length) []) (by simp; omega) q; refine ⟨_, L, og, rfl, by rw [hgo]; exact hp.2.1, hp.2.2, fun _ _ _ _ => Iff.rfl, fun b hb => ?_, ?_⟩
    · refine ⟨Nat.lt_of_lt_of_le (hog b hb).1 hp.2.1.size, .inr hb⟩
    · simp only [RC]; have := hp.1.cut (hi := (compact l).length) (m := cap) (by simp) (by omega) (Nat.le_refl _); rw [← List.map_take, List.take_left] at this; exact this
theorem delete_fn (l : List Str) (i : Nat) (hi : i < l.length) (hl : l.length < 1000000) : Ctr prog 136 [.own true 9 (l.map .str), .d (.int .i64 i), .d (.int .i64 ((i : Int) + 1))] (.own true 9 ((l.eraseIdx i).map .str)) := by
  refine ⟨enters_of func136 (by kernel_rfl) rfl, fun w L og vals hlok hgl hog hrc => ?_⟩; simp only [RCs] at hrc; obtain ⟨v, us, rfl, hown, a, us, rfl, ha, b, us, rfl, hb, rfl⟩ := hrc; simp only [RC] at hown ha hb; rw [ha.int_inv, hb.int_inv]; rcases strs_own hown with ⟨rfl, rfl⟩ | ⟨g, cap, rfl, hcap, hcm, hH, hg, hgo⟩
  · simp at hi
  · have h := AnyG.slices_Delete_string Tryz.layD g 0 cap i (i + 1) l w hH hcap (by unfold maxLen at hcm; omega) (by omega) (by omega)
    change Calls prog 136 _ _ _ at h
    refine h.mono ?_; rintro e w' ⟨rfl, q, rfl⟩; have hp := strs_put hown hlok (l.take i ++ l.drop (i + 1) ++ List.replicate (i + 1 - i) []) (by simp; omega) q; refine ⟨_, L, og, rfl, by rw [hgo]; exact hp.2.1, hp.2.2, fun _ _ _ _ => Iff.rfl, fun b hb => ?_, ?_⟩
    · refine ⟨Nat.lt_of_lt_of_le (hog b hb).1 hp.2.1.size, .inr hb⟩
    · simp only [RC]; have := hp.1.cut (hi := l.length - (i + 1 - i)) (m := cap) (by simp; omega) (by omega) (Nat.le_refl _); rw [← List.map_take, show List.take (l.length - (i + 1 - i)) (l.take i ++ l.drop (i + 1) ++ List.replicate (i + 1 - i) []) = l.eraseIdx i by
        rw [List.take_left' (by simp; omega), List.eraseIdx_eq_take_drop_succ]] at this
      exact this
end Go.Proofs.Tz