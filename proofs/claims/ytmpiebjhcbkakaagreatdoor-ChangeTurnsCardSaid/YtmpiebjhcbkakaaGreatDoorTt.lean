/-
  What the functions that the statements about layer 16 (change) reach compute, part 2 of 4: contracts and plain laws, for lists and strings of bounded size (each theorem states its bound).
-/
import Derived.Test.YtmpiebjhcbkakaaGreatDoorTs
import Derived.Lib.MakeNoZero
import Derived.Laws.IdiomCopy

set_option linter.unusedSimpArgs false
set_option linter.unusedVariables false

/- Vectors of change sequence numbers: Check, vector, Covers (both). -/
set_option maxRecDepth 100000
set_option maxHeartbeats 4000000
set_option linter.unusedVariables false
set_option linter.unusedSimpArgs false
namespace Go.Proofs.Tz
open Go.Vw Go.RowKit Go.Proofs

theorem indexC_fn (g : FuncId) (cs : List D) (hcs : (cs.all fun c => !c.isAgg) = true) (p : Csn → Bool) (l : List Csn) (hl : l.length < 1000000) (hp : ∀ a ∈ l, Ctr Tryz.prog g ([.d (csnD a)] ++ cs.map .d) (.d (.bool (p a)))) :
    Ctr Tryz.prog 74 [.d (csns l), .d (.clo g cs)] (.d (.int .i64 (idxG p 0 l))) := by
  refine fn_of_vwp (fun _ => false) (by kernel_rfl) Tryz.func74 (by kernel_rfl) rfl rfl (Nat.le_of_ble_eq_true rfl) (by kernel_rfl) rfl rfl ?_
  simp -implicitDefEqProofs [csns]
  refine loopN l.length (fun k τ => τ 0 = .d (csns l) ∧ τ 1 = .d (.clo g cs) ∧ τ 7 = .d (.int .i64 l.length) ∧ τ 8 = .d (.int .i64 k) ∧ idxG p 0 l = idxG p k (l.drop k)) (by simp [csns]) ?_
  rintro k τ hk ⟨h0, h1, h7, h8, hi⟩
  by_cases hlt : k < l.length
  · rw [idxG_drop hlt] at hi
    have hf := hp _ (List.getElem_mem hlt)
    simp only [csnD, List.cons_append, List.nil_append] at hf
    simp -implicitDefEqProofs [h0, h1, h7, h8, csns, csnD, hlt]
    refine ⟨by simpa using hcs, callK hf ?_⟩
    by_cases he : p l[k] = true
    · simp -implicitDefEqProofs [h0, h1, h7, h8, csns, csnD, hlt, he]
      rw [hi, if_pos he]
    · simp -implicitDefEqProofs [h0, h1, h7, h8, csns, csnD, hlt, he]
      refine ⟨by omega, again hlt ⟨by simp [h0, csns, csnD], by simp [h1], by simp [h7], by simp, ?_⟩⟩
      rw [hi, if_neg he]
  · simp -implicitDefEqProofs [h0, h1, h7, h8, csns, hlt]
    rw [hi, List.drop_eq_nil_of_le (by omega)]
    simp -implicitDefEqProofs [idxG]
theorem containsC_fn (g : FuncId) (cs : List D) (hcs : (cs.all fun c => !c.isAgg) = true) (p : Csn → Bool) (l : List Csn) (hl : l.length < 1000000) (hp : ∀ a ∈ l, Ctr Tryz.prog g ([.d (csnD a)] ++ cs.map .d) (.d (.bool (p a)))) :
    Ctr Tryz.prog 121 [.d (csns l), .d (.clo g cs)] (.d (.bool (l.any p))) := by
  refine fn_of_vwp (fun _ => false) (by kernel_rfl) Tryz.func121 (by kernel_rfl) rfl rfl (Nat.le_of_ble_eq_true rfl) (by kernel_rfl) rfl rfl ?_
  have c1 := indexC_fn g cs hcs p l hl hp
  have h := idxG_ge p l 0
  have he : decide (0 ≤ idxG p 0 l) = l.any p := by
    rw [Bool.eq_iff_iff, decide_eq_true_iff, h, List.any_eq_true]
  simp -implicitDefEqProofs
  refine callK c1 ?_
  simp -implicitDefEqProofs [he]
theorem checkQ_fn (x c : Csn) : Ctr Tryz.prog 208 [.d (csnD x), .d (.ref (csnD c))] (.d (.bool (decide (x.2.2 = c.2.2)))) := by
  refine fn_of_vwp (fun _ => false) (by kernel_rfl) Tryz.func208 (by kernel_rfl) rfl rfl (Nat.le_of_ble_eq_true rfl) (by kernel_rfl) rfl rfl ?_
  simp -implicitDefEqProofs [csnD]
def covQ (c x : Csn) : Bool := decide (x.2.2 = c.2.2) && decide (0 ≤ cmpC x c)
theorem covQ_fn (x c : Csn) : Ctr Tryz.prog 123 [.d (csnD x), .d (.ref (csnD c))] (.d (.bool (covQ c x))) := by
  refine fn_of_vwp (fun _ => false) (by kernel_rfl) Tryz.func123 (by kernel_rfl) rfl rfl (Nat.le_of_ble_eq_true rfl) (by kernel_rfl) rfl rfl ?_
  have c1 := ccmp_fn x c
  obtain ⟨x1, x2, x3⟩ := x
  obtain ⟨c1', c2', c3'⟩ := c
  unfold covQ
  simp only
  simp only [csnD] at c1
  by_cases h : x3 = c3'
  · subst h
    simp -implicitDefEqProofs [csnD]
    refine callK c1 ?_
    simp -implicitDefEqProofs
  · simp -implicitDefEqProofs [csnD, h]

def vStep (v : List Csn) (k : Nat) : Int := match v[k]? with
  | none => 0
  | some c => if validC c = false then 2 else if (v.take k).any (fun x => decide (x.2.2 = c.2.2)) = true then 7 else if 0 < k ∧ c.2.2 < (v.getD (k - 1) (0, 0, 0)).2.2 then 4 else 0
def firstNZ (f : Nat → Int) : Nat → Nat → Int
  | 0, _ => 0
  | n + 1, k => if f k ≠ 0 then f k else firstNZ f n (k + 1)
def vchk (v : List Csn) : Int := firstNZ (vStep v) v.length 0
theorem firstNZ_zero {f : Nat → Int} : ∀ {n k : Nat}, firstNZ f n k = 0 ↔ ∀ i, k ≤ i → i < k + n → f i = 0
  | 0, k => by simp [firstNZ]; omega
  | n + 1, k => by
    rw [firstNZ]
    by_cases h : f k = 0
    · rw [if_neg (by simpa using h), firstNZ_zero]
      constructor
      · intro h1 i h2 h3
        by_cases e : i = k
        · rw [e]; exact h
        · exact h1 i (by omega) (by omega)
      · intro h1 i h2 h3; exact h1 i (by omega) (by omega)
    · rw [if_pos h]
      constructor
      · intro e; exact absurd e h
      · intro h1; exact absurd (h1 k (Nat.le_refl _) (by omega)) h
theorem firstNZ_step {f : Nat → Int} {N k : Nat} (hk : k < N) : firstNZ f (N - k) k = if f k ≠ 0 then f k else firstNZ f (N - (k + 1)) (k + 1) := by
  rw [show N - k = (N - (k + 1)) + 1 by omega, firstNZ]
theorem vcheck_fn (v : List Csn) (hl : v.length < 1000000) : Ctr Tryz.prog 156 [.d (csns v)] (.d (.int .i64 (vchk v))) := by
  refine fn_of_vwp (fun _ => false) (by kernel_rfl) Tryz.func156 (by kernel_rfl) rfl rfl (Nat.le_of_ble_eq_true rfl) (by kernel_rfl) rfl rfl ?_
  obtain ⟨R, hR⟩ : ∃ R, vchk v = R := ⟨_, rfl⟩
  rw [hR]
  simp -implicitDefEqProofs [csns]
  refine loopN v.length (fun k τ => τ 0 = .d (csns v) ∧ τ 5 = .d (csns v) ∧ τ 6 = .d (.int .i64 v.length) ∧ τ 7 = .d (.int .i64 k) ∧ firstNZ (vStep v) (v.length - k) k = R) ⟨by simp [csns], by simp [csns], by simp, by simp, hR⟩ ?_
  rintro k τ hk ⟨h0, h5, h6, h7, hI⟩
  by_cases hlt : k < v.length
  · have hlt' : (k : Int) < v.length := by omega
    rw [firstNZ_step hlt] at hI
    have hget : v[k]? = some v[k] := List.getElem?_eq_getElem hlt
    have c1 := cvalid_fn v[k]
    have c2 := containsC_fn 208 [.ref (csnD v[k])] rfl (fun x => decide (x.2.2 = v[k].2.2)) (v.take k) (by simp; omega) (fun x _ => by simpa using checkQ_fn x v[k])
    have hprev : ∀ h : 0 < k, v.getD (k - 1) (0, 0, 0) = v[k - 1]'(by omega) := fun h => by
      rw [List.getD_eq_getElem?_getD, List.getElem?_eq_getElem (by omega)]; rfl
    have hst : vStep v k = if validC v[k] = false then 2 else if (v.take k).any (fun x => decide (x.2.2 = v[k].2.2)) = true then 7 else if 0 < k ∧ v[k].2.2 < (v.getD (k - 1) (0, 0, 0)).2.2 then 4 else 0 := by
      unfold vStep; rw [hget]
    generalize hB : (v.take k).any (fun x => decide (x.2.2 = v[k].2.2)) = B at *
    generalize hc : v[k] = c at *
    simp only [csns, csnD, List.map_take] at c1 c2
    by_cases hv : validC c = true
    case neg =>
      have hv' : validC c = false := by simpa using hv
      rw [if_pos hv'] at hst
      rw [hst, if_pos (by decide)] at hI
      rw [hv'] at c1
      subst hI
      simp -implicitDefEqProofs [h0, h5, h6, h7, hlt, hlt', hc, csns, csnD]
      refine callK c1 ?_
      simp -implicitDefEqProofs
    rw [if_neg (by rw [hv]; simp)] at hst
    rw [hv] at c1
    cases B
    case true =>
      rw [if_pos rfl] at hst
      rw [hst, if_pos (by decide)] at hI
      subst hI
      simp -implicitDefEqProofs [h0, h5, h6, h7, hlt, hlt', hc, csns, csnD]
      refine callK c1 ?_
      simp -implicitDefEqProofs [h0, h5, h6, h7, csns, csnD]
      repeat refine And.intro (by omega) ?_
      refine And.intro (by rintro y x x1 x2 _ rfl; simp [width, widths]) ?_
      refine callK c2 ?_
      simp -implicitDefEqProofs
    rw [if_neg (by simp)] at hst
    by_cases hk0 : 0 < k
    case neg =>
      obtain rfl : k = 0 := by omega
      rw [if_neg (by omega)] at hst
      rw [hst, if_neg (by simp)] at hI
      simp -implicitDefEqProofs [h0, h5, h6, h7, hlt, hlt', hc, csns, csnD]
      refine callK c1 ?_
      simp -implicitDefEqProofs [h0, h5, h6, h7, csns, csnD]
      repeat refine And.intro (by omega) ?_
      refine And.intro (by rintro y x x1 x2 _ rfl; simp [width, widths]) ?_
      refine callK c2 ?_
      simp -implicitDefEqProofs [h0, h5, h6, h7, csns, csnD]
      repeat refine And.intro (by omega) ?_
      exact again hlt ⟨by simp [h0, csns, csnD], by simp [h5, csns, csnD], by simp [h6], by simp, by simpa using hI⟩
    have hk0' : (0 : Int) < k := by omega
    have hk1 : ((k : Int) - 1).toNat = k - 1 := by omega
    have hk2 : k - 1 < v.length := by omega
    have hpv := hprev hk0
    generalize hp : v[k - 1]'hk2 = q at *
    rw [hpv] at hst
    by_cases hlt2 : c.2.2 < q.2.2
    · rw [if_pos ⟨hk0, hlt2⟩] at hst
      rw [hst, if_pos (by decide)] at hI
      subst hI
      simp -implicitDefEqProofs [h0, h5, h6, h7, hlt, hlt', hc, csns, csnD]
      refine callK c1 ?_
      simp -implicitDefEqProofs [h0, h5, h6, h7, csns, csnD]
      repeat refine And.intro (by omega) ?_
      refine And.intro (by rintro y x x1 x2 _ rfl; simp [width, widths]) ?_
      refine callK c2 ?_
      simp -implicitDefEqProofs [h0, h5, h6, h7, csns, csnD, hk0, hk0', hk1, hk2, hp, hlt2]
      repeat refine And.intro (by omega) ?_
      all_goals omega
    · rw [if_neg (fun e => hlt2 e.2)] at hst
      rw [hst, if_neg (by simp)] at hI
      simp -implicitDefEqProofs [h0, h5, h6, h7, hlt, hlt', hc, csns, csnD]
      refine callK c1 ?_
      simp -implicitDefEqProofs [h0, h5, h6, h7, csns, csnD]
      repeat refine And.intro (by omega) ?_
      refine And.intro (by rintro y x x1 x2 _ rfl; simp [width, widths]) ?_
      refine callK c2 ?_
      simp -implicitDefEqProofs [h0, h5, h6, h7, csns, csnD, hk0, hk0', hk1, hk2, hp, hlt2]
      repeat refine And.intro (by omega) ?_
      exact again hlt ⟨by simp [h0, csns, csnD], by simp [h5, csns, csnD], by simp [h6], by simp, by simpa using hI⟩
  · have hlt' : ¬ (k : Int) < v.length := by omega
    rw [show v.length - k = 0 by omega] at hI
    simp only [firstNZ] at hI
    subst hI
    simp -implicitDefEqProofs [h0, h5, h6, h7, hlt, hlt']

def vectC (v : List Csn) : List Csn := if vchk v = 0 then v else []
def coversB (v : List Csn) (c : Csn) : Bool := validC c && (vectC v).any (covQ c)
theorem vect_fn (v : List Csn) (hl : v.length < 1000000) : Ctr Tryz.prog 122 [.d (csns v)] (.d (csns (vectC v))) := by
  refine fn_of_vwp (fun _ => false) (by kernel_rfl) Tryz.func122 (by kernel_rfl) rfl rfl (Nat.le_of_ble_eq_true rfl) (by kernel_rfl) rfl rfl ?_
  have c1 := vcheck_fn v hl
  unfold vectC
  generalize vchk v = R at *
  by_cases h : R = 0
  · rw [if_pos h]
    subst h
    simp -implicitDefEqProofs [csns]
    refine callK (by simpa [csns] using c1) ?_
    simp -implicitDefEqProofs
  · rw [if_neg h]
    simp -implicitDefEqProofs [csns]
    refine callK (by simpa [csns] using c1) ?_
    simp -implicitDefEqProofs [h]
theorem vectC_len (v : List Csn) : (vectC v).length ≤ v.length := by unfold vectC; split <;> simp
theorem covers_fn (v : List Csn) (c : Csn) (hl : v.length < 1000000) : Ctr Tryz.prog 72 [.d (csns v), .d (csnD c)] (.d (.bool (coversB v c))) := by
  refine fn_of_vwp (fun _ => false) (by kernel_rfl) Tryz.func72 (by kernel_rfl) rfl rfl (Nat.le_of_ble_eq_true rfl) (by kernel_rfl) rfl rfl ?_
  have c1 := cvalid_fn c
  have c2 := vect_fn v hl
  have hvl := vectC_len v
  have c3 := containsC_fn 123 [.ref (csnD c)] rfl (covQ c) (vectC v) (by omega) (fun x _ => by simpa using covQ_fn x c)
  unfold coversB
  generalize vectC v = V at *
  generalize V.any (covQ c) = B at *
  simp only [csns, csnD] at c1 c2 c3
  by_cases hv : validC c = true
  · rw [hv] at c1 ⊢
    simp -implicitDefEqProofs [csns, csnD]
    refine callK c1 ?_
    simp -implicitDefEqProofs
    refine callK c2 ?_
    simp -implicitDefEqProofs
    refine callK c3 ?_
    simp -implicitDefEqProofs
  · have hv' : validC c = false := by simpa using hv
    rw [hv'] at c1 ⊢
    simp -implicitDefEqProofs [csns, csnD]
    refine callK c1 ?_
    simp -implicitDefEqProofs
end Go.Proofs.Tz

namespace Go.Proofs.Tz
open Go.Vw
set_option maxRecDepth 100000
set_option maxHeartbeats 4000000
set_option linter.unusedSimpArgs false

theorem lowc_not {c : UInt8} (h : ¬ (65 ≤ (c.toNat : Int) ∧ (c.toNat : Int) ≤ 90)) : lowc c = c := if_neg h

def halfL (s : Str) (k : Nat) : List D := ((lower (s.take k)) ++ s.drop k).map u8
theorem halfL_len (s : Str) (k : Nat) (h : k ≤ List.length s) : (halfL s k).length = List.length s := by simp [halfL, lower]; omega
theorem halfL_get (s : Str) (k : Nat) (h : k < List.length s) : (halfL s k)[k]? = some (u8 s[k]) := by
  have hl : (lower (s.take k)).length = k := by simp [lower]; omega
  simp only [halfL, List.getElem?_map]
  rw [List.getElem?_append_right (by omega), hl, Nat.sub_self]
  simp [h]
theorem halfL_set (s : Str) (k : Nat) (h : k < List.length s) : (halfL s k).set k (u8 (lowc s[k])) = halfL s (k + 1) := by
  have hl : (lower (s.take k)).length = k := by simp [lower]; omega
  simp only [halfL, ← List.map_set]
  rw [List.set_append_right _ _ (by omega), hl, Nat.sub_self, List.drop_eq_getElem_cons h, List.set_cons_zero, take_s h]
  simp only [lower, List.map_append, List.map_cons, List.map_nil, List.append_assoc, List.singleton_append]

theorem foldLower_fn (s : Str) (hs : List.length s < 1000000) : Ctr Tryz.prog 56 [.d (.str s)] (.d (.str (lower s))) := by
  refine fn_of_vwp (fun i => decide (i < 1000000)) (by kernel_rfl) Tryz.func56 (by kernel_rfl) rfl rfl (Nat.le_of_ble_eq_true rfl) (by kernel_rfl) rfl rfl ?_
  simp -implicitDefEqProofs
  refine ⟨by omega, ?_⟩
  refine loopN (List.length s) (fun k τ => τ 9 = .d (.int .i64 k) ∧ τ 8 = .d (.int .i64 (List.length s)) ∧ τ 3 = .own true 100005 (halfL s k)) (by simp [halfL, lower, bytesD, u8]) ?_
  rintro k τ hk ⟨h9, h8, h3⟩
  have hlen := halfL_len s k hk
  by_cases hlt : k < List.length s
  · have hg := halfL_get s k hlt
    have hset := halfL_set s k hlt
    generalize halfL s k = M at *
    have hlt2 : k < M.length := by omega
    have hg2 : M[k] = u8 s[k] := (List.getElem?_eq_some_iff.1 hg).2
    simp -implicitDefEqProofs [h9, h8, h3, hlt, hlt2, hg2, u8]
    refine callK (upper_fn _) ?_
    by_cases h1 : 65 ≤ (s[k].toNat : Int) ∧ (s[k].toNat : Int) ≤ 90
    · simp -implicitDefEqProofs [h9, h8, h3, hlt, hlt2, hg2, u8, h1.1, h1.2]
      have e : u8 (lowc s[k]) = .int .u8 ((s[k].toNat : Int) + 32) := by
        simp only [u8, lowc_toNat _ h1.1 h1.2]; congr 1; omega
      rw [e] at hset
      exact ⟨by omega, by omega, again hlt ⟨by simp, by simp [h8], by simp [hset]⟩⟩
    · have hb : (decide (65 ≤ (s[k].toNat : Int)) && decide ((s[k].toNat : Int) ≤ 90)) = false := by simpa using h1
      simp -implicitDefEqProofs [h9, h8, h3, hlt, hlt2, hg2, u8, hb]
      rw [lowc_not h1, ← hg2, List.set_getElem_self] at hset
      exact ⟨by omega, again hlt ⟨by simp, by simp [h8], by simp [h3, hset]⟩⟩
  · simp -implicitDefEqProofs [h9, h8, h3, hlt]
    have e : halfL s k = bytesD (lower s) := by
      have : k = List.length s := by omega
      subst this
      simp [halfL, bytesD, u8]
    simp -implicitDefEqProofs [e, h3]
end Go.Proofs.Tz

namespace Go.Proofs.Tz
open Go.Vw
set_option maxRecDepth 100000
set_option maxHeartbeats 4000000
set_option linter.unusedSimpArgs false

theorem u8ne {x c : UInt8} (h : ¬ x = c) : ¬ ((x.toNat : Int) = c.toNat) := fun e => h (UInt8.toNat_inj.1 (by omega))

def trimLB (c : UInt8) (s : Str) : Str := s.dropWhile fun x => decide (x = c)
def trimRB (c : UInt8) (s : Str) : Str := (s.reverse.dropWhile fun x => decide (x = c)).reverse

theorem trimL_fn (s : Str) (c : UInt8) : Ctr Tryz.prog 192 [.d (.str s), .d (u8 c)] (.d (.str (trimLB c s))) := by
  refine fn_of_vwp (fun _ => false) (by kernel_rfl) Tryz.func192 (by kernel_rfl) rfl rfl (Nat.le_of_ble_eq_true rfl) (by kernel_rfl) rfl rfl ?_
  simp -implicitDefEqProofs [u8]
  refine loopK (fun n τ => ∃ t : Str, n = t.length ∧ τ 0 = .d (.str t) ∧ τ 1 = .d (.int .u8 c.toNat) ∧ trimLB c t = trimLB c s) s.length ⟨s, rfl, by simp, by simp, rfl⟩ ?_
  rintro n τ ⟨t, rfl, h0, h1, ht⟩
  cases t with
  | nil =>
    simp -implicitDefEqProofs [h0, h1]
    rw [← ht]; rfl
  | cons x t =>
    by_cases hx : x = c
    · subst hx
      simp -implicitDefEqProofs [h0, h1]
      exact ⟨_, by omega, t, rfl, rfl, by rw [← ht, trimLB, trimLB, List.dropWhile_cons, if_pos (by simp)]⟩
    · have := u8ne hx
      simp -implicitDefEqProofs [h0, h1, this]
      rw [← ht, trimLB, List.dropWhile_cons, if_neg (by simp [hx])]

theorem trimRB_last {c : UInt8} {t : Str} (h : 0 < List.length t) : trimRB c t = if t[List.length t - 1] = c then trimRB c (t.take (List.length t - 1)) else t := by
  have e : t = t.take (List.length t - 1) ++ [t[List.length t - 1]] := by
    have := take_s (l := t) (k := List.length t - 1) (by omega)
    rw [show List.length t - 1 + 1 = List.length t by omega, List.take_length] at this
    exact this
  conv => lhs; rw [e]
  rw [trimRB, List.reverse_append, List.reverse_singleton, List.singleton_append, List.dropWhile_cons]
  by_cases hx : t[List.length t - 1] = c
  · rw [if_pos (by simpa using hx), if_pos hx, trimRB]
  · rw [if_neg (by simpa using hx), if_neg hx, List.reverse_cons, List.reverse_reverse]
    exact e.symm

theorem trimR_fn (s : Str) (c : UInt8) (hs : List.length s < 1000000) : Ctr Tryz.prog 193 [.d (.str s), .d (u8 c)] (.d (.str (trimRB c s))) := by
  refine fn_of_vwp (fun _ => false) (by kernel_rfl) Tryz.func193 (by kernel_rfl) rfl rfl (Nat.le_of_ble_eq_true rfl) (by kernel_rfl) rfl rfl ?_
  simp -implicitDefEqProofs [u8]
  refine loopK (fun n τ => ∃ t : Str, n = t.length ∧ τ 0 = .d (.str t) ∧ τ 1 = .d (.int .u8 c.toNat) ∧ List.length t < 1000000 ∧ trimRB c t = trimRB c s) s.length ⟨s, rfl, by simp, by simp, hs, rfl⟩ ?_
  rintro n τ ⟨t, rfl, h0, h1, hl, ht⟩
  by_cases hpos : 0 < List.length t
  · have hi : 0 ≤ (List.length t : Int) - 1 := by omega
    have hi2 : ((List.length t : Int) - 1).toNat = List.length t - 1 := by omega
    have hi3 : List.length t - 1 < List.length t := by omega
    have hi4 : -9223372036854775808 ≤ (List.length t : Int) - 1 := by omega
    have hi5 : (List.length t : Int) - 1 ≤ 9223372036854775807 := by omega
    have hi6 : 1 ≤ (List.length t : Int) := by omega
    have hz : ¬ t = [] := fun e => by subst e; simp at hpos
    rw [trimRB_last hpos] at ht
    by_cases hx : t[List.length t - 1] = c
    · rw [if_pos hx] at ht
      simp -implicitDefEqProofs [h0, h1, hpos, hi, hi2, hi3, hi4, hi5, hi6, hx, hz]
      exact ⟨List.length t - 1, by omega, t.take (List.length t - 1), by rw [List.length_take]; omega, rfl, by rw [List.length_take]; omega, ht⟩
    · have := u8ne hx
      rw [if_neg hx] at ht
      simp -implicitDefEqProofs [h0, h1, hpos, hi, hi2, hi3, hi4, hi5, hi6, this, hz]
      exact ht
  · obtain rfl : t = [] := List.eq_nil_of_length_eq_zero (by omega)
    simp -implicitDefEqProofs [h0, h1]
    rw [← ht]; rfl

def trimB (s : Str) : Str := trimLB 32 (trimRB 32 s)
theorem trim102_fn (s : Str) (hs : List.length s < 1000000) : Ctr Tryz.prog 141 [.d (.str s), .d (.str [32])] (.d (.str (trimB s))) := by
  refine fn_of_vwp (fun _ => false) (by kernel_rfl) Tryz.func141 (by kernel_rfl) rfl rfl (Nat.le_of_ble_eq_true rfl) (by kernel_rfl) rfl rfl ?_
  by_cases hz : s = []
  · subst hz
    simp -implicitDefEqProofs
    try rfl
  simp -implicitDefEqProofs [hz]
  have h1 : Ctr Tryz.prog 193 [.d (.str s), .d (.int .u8 32)] (.d (.str (trimRB 32 s))) := trimR_fn s 32 hs
  have h2 : Ctr Tryz.prog 192 [.d (.str (trimRB 32 s)), .d (.int .u8 32)] (.d (.str (trimB s))) := trimL_fn (trimRB 32 s) 32
  refine callP h1 ?_
  simp -implicitDefEqProofs [hz]
  refine callP h2 ?_
  simp -implicitDefEqProofs [hz]
theorem trim_fn (s : Str) (hs : List.length s < 1000000) : Ctr Tryz.prog 111 [.d (.str s)] (.d (.str (trimB s))) := by
  refine fn_of_vwp (fun _ => false) (by kernel_rfl) Tryz.func111 (by kernel_rfl) rfl rfl (Nat.le_of_ble_eq_true rfl) (by kernel_rfl) rfl rfl ?_
  simp -implicitDefEqProofs
  refine callK (trim102_fn s hs) ?_
  simp -implicitDefEqProofs

def cleanF (s : Str) : Bool := s.all cleanC && decide (s ≠ []) && decide (List.length s ≤ 256) && decide (trimB s = s)

theorem dec_lo {s : Str} {k : Nat} (h : k < List.length s) (hc : s[k].toNat < 128) : Go.Utf8.decode ⟨s.toArray⟩ k = (s[k].toNat, 1) := by
  have hb : k < (⟨s.toArray⟩ : ByteArray).size := by simpa [ByteArray.size] using h
  have e : (⟨s.toArray⟩ : ByteArray)[k]'hb = s[k] := rfl
  have := decode_ascii ⟨s.toArray⟩ k hb (by rw [e]; exact hc)
  rw [e] at this
  exact this
theorem dec_hi {s : Str} {k : Nat} (h : k < List.length s) (hc : 128 ≤ s[k].toNat) : 128 ≤ (Go.Utf8.decode ⟨s.toArray⟩ k).1 := by
  have hb : k < (⟨s.toArray⟩ : ByteArray).size := by simpa [ByteArray.size] using h
  have e : (⟨s.toArray⟩ : ByteArray)[k]'hb = s[k] := rfl
  exact (decode_high ⟨s.toArray⟩ k hb (by rw [e]; exact hc)).1

theorem trimLB_len (c : UInt8) (s : Str) : List.length (trimLB c s) ≤ List.length s := (List.dropWhile_sublist _).length_le
theorem trimRB_len (c : UInt8) (s : Str) : List.length (trimRB c s) ≤ List.length s := by
  have := (List.dropWhile_sublist (fun x : UInt8 => decide (x = c)) (l := s.reverse)).length_le
  simpa [trimRB] using this
theorem trimB_iff {s : Str} (h : 0 < List.length s) : trimB s = s ↔ s[0] ≠ 32 ∧ s[List.length s - 1] ≠ 32 := by
  constructor
  · intro e
    have h1 := trimLB_len 32 (trimRB 32 s)
    have h2 := trimRB_len 32 s
    have h3 : List.length (trimB s) = List.length s := by rw [e]
    rw [trimB] at h3
    have hr : s[List.length s - 1] ≠ 32 := by
      intro h4
      rw [trimRB_last h, if_pos h4] at h3 h1
      have h5 := trimRB_len 32 (s.take (List.length s - 1))
      rw [List.length_take] at h5
      omega
    refine ⟨fun h4 => ?_, hr⟩
    rw [trimB, trimRB_last h, if_neg hr] at e
    cases s with
    | nil => simp at h
    | cons x t =>
      simp only [List.getElem_cons_zero] at h4
      rw [trimLB, List.dropWhile_cons, if_pos (by simp [h4])] at e
      have := trimLB_len 32 t
      rw [trimLB, e, List.length_cons] at this
      omega
  · rintro ⟨h1, h2⟩
    rw [trimB, trimRB_last h, if_neg h2]
    cases s with
    | nil => rfl
    | cons x t => rw [trimLB, List.dropWhile_cons, if_neg (by simpa using h1)]
theorem cleanF_eq (s : Str) : cleanF s = cleanB s := by
  by_cases h : 0 < List.length s
  · have hne : s ≠ [] := fun e => by subst e; simp at h
    have hh : s.head? = some s[0] := by simp [List.head?_eq_getElem?, h]
    have hl : s.getLast? = some s[List.length s - 1] := by rw [List.getLast?_eq_getElem?, List.getElem?_eq_getElem (by omega)]
    rw [Bool.eq_iff_iff]
    simp only [cleanF, cleanB, Bool.and_eq_true, decide_eq_true_eq, trimB_iff h, hh, hl, bne_iff_ne, ne_eq, Option.some.injEq]
    have : 1 ≤ List.length s := h
    constructor
    · rintro ⟨⟨⟨a, b⟩, c⟩, d, e⟩; exact ⟨⟨⟨⟨this, c⟩, d⟩, e⟩, a⟩
    · rintro ⟨⟨⟨⟨_, c⟩, d⟩, e⟩, a⟩; exact ⟨⟨⟨a, hne⟩, c⟩, d, e⟩
  · obtain rfl : s = [] := List.eq_nil_of_length_eq_zero (by omega)
    rfl

theorem fclean_fn (s : Str) (hs : List.length s < 1000000) : Ctr Tryz.prog 57 [.d (.str s)] (.d (.bool (cleanF s))) := by
  refine fn_of_vwp (fun _ => false) (by kernel_rfl) Tryz.func57 (by kernel_rfl) rfl rfl (Nat.le_of_ble_eq_true rfl) (by kernel_rfl) rfl rfl ?_
  simp -implicitDefEqProofs
  refine loopN (List.length s) (fun k τ => τ 0 = .d (.str s) ∧ τ 6 = .iter s k ∧ ∀ x ∈ s.take k, cleanC x = true) (by simp) ?_
  rintro k τ hk ⟨h0, h6, hall⟩
  by_cases hlt : k < List.length s
  · by_cases ha : s[k].toNat < 128
    · have hd := dec_lo hlt ha
      by_cases e1 : (s[k].toNat : Int) < 32
      · have e1' : ¬ 32 ≤ (s[k].toNat : Int) := by omega
        simp -implicitDefEqProofs [h0, h6, hlt, hd, e1]
        simp [cleanF, all_not hlt (show cleanC s[k] = false by simp [cleanC, e1'])]
      · by_cases e2 : 126 < (s[k].toNat : Int)
        · have e2' : ¬ (s[k].toNat : Int) ≤ 126 := by omega
          simp -implicitDefEqProofs [h0, h6, hlt, hd, e1, e2]
          simp [cleanF, all_not hlt (show cleanC s[k] = false by simp [cleanC, e2'])]
        · have e1' : 32 ≤ (s[k].toNat : Int) := by omega
          have e2' : (s[k].toNat : Int) ≤ 126 := by omega
          simp -implicitDefEqProofs [h0, h6, hlt, hd, e1, e2]
          exact again hlt ⟨by simp [h0], by simp, all_take hlt hall (by simp [cleanC, e1', e2'])⟩
    · have hd := dec_hi hlt (by omega)
      have e1 : ¬ ((Go.Utf8.decode ⟨s.toArray⟩ k).1 : Int) < 32 := by omega
      have e2 : 126 < ((Go.Utf8.decode ⟨s.toArray⟩ k).1 : Int) := by omega
      have e2' : ¬ (s[k].toNat : Int) ≤ 126 := by omega
      simp -implicitDefEqProofs [h0, h6, hlt, e1, e2]
      simp [cleanF, all_not hlt (show cleanC s[k] = false by simp [cleanC, e2'])]
  · rw [List.take_of_length_le (by omega)] at hall
    have hall' : s.all cleanC = true := List.all_eq_true.2 hall
    by_cases hz : s = []
    · subst hz
      simp -implicitDefEqProofs [h0, h6, cleanF]
    · by_cases h2 : (List.length s : Int) ≤ 256
      · have h2' : List.length s ≤ 256 := by omega
        simp -implicitDefEqProofs [h0, h6, hlt, hz, h2]
        refine callK (trim_fn s hs) ?_
        simp -implicitDefEqProofs [h0, h6, hlt, hz, h2, cleanF, hall', h2']
      · have h2' : ¬ List.length s ≤ 256 := by omega
        simp -implicitDefEqProofs [h0, h6, hlt, hz, h2, cleanF, h2']
end Go.Proofs.Tz

/- Names: the plain law (no program in sight). -/
set_option linter.unusedVariables false
set_option linter.unusedSimpArgs false
namespace Go.Proofs.Tz
open Go.Vw Go.RowKit Go.Proofs

def specB (c : UInt8) : Bool := decide (c = 44) || decide (c = 61) || decide (c = 43) || decide (c = 92)

/-- The place of the first byte c that is not escaped; or the length. -/
def nextU (c : UInt8) : Str → Nat
  | [] => 0
  | [x] => if x = c then 0 else 1
  | x :: y :: r => if x = c then 0 else if x = 92 then 2 + nextU c r else 1 + nextU c (y :: r)

/-- s divided at each comma that is not escaped. -/
def piecesF : Nat → Str → List Str
  | 0, s => [s]
  | n + 1, s => if nextU 44 s < s.length then s.take (nextU 44 s) :: piecesF n (s.drop (nextU 44 s + 1)) else [s]
def piecesU (s : Str) : List Str := piecesF s.length s
theorem piecesF_eq : ∀ (n m : Nat) (s : Str), s.length ≤ n → s.length ≤ m → piecesF n s = piecesF m s
  | 0, 0, _, _, _ => rfl
  | 0, m + 1, s, h, _ => by
    have : s = [] := List.length_eq_zero_iff.1 (by omega)
    subst this
    simp [piecesF]
  | n + 1, 0, s, _, h => by
    have : s = [] := List.length_eq_zero_iff.1 (by omega)
    subst this
    simp [piecesF]
  | n + 1, m + 1, s, h1, h2 => by
    simp only [piecesF]
    split
    · rw [piecesF_eq n m _ (by simp only [List.length_drop]; omega) (by simp only [List.length_drop]; omega)]
    · rfl

theorem piecesU_at {s : Str} (h : nextU 44 s < s.length) : piecesU s = s.take (nextU 44 s) :: piecesU (s.drop (nextU 44 s + 1)) := by
  obtain ⟨n, hn⟩ : ∃ n, s.length = n + 1 := ⟨s.length - 1, by omega⟩
  rw [piecesU, hn, piecesF, if_pos h, piecesU, piecesF_eq n _ _ (by simp only [List.length_drop]; omega) (Nat.le_refl _)]
theorem piecesU_end {s : Str} (h : ¬ nextU 44 s < s.length) : piecesU s = [s] := by
  rw [piecesU]
  cases s.length with
  | zero => rfl
  | succ n => rw [piecesF, if_neg h]

/-- A value without its backslashes. -/
def valueU : Str → Option Str
  | [] => some []
  | [x] => if x = 92 then none else if specB x = true then none else some [x]
  | x :: y :: r => if x = 92 then (if specB y = true then (valueU r).map (y :: ·) else none) else if specB x = true then none else (valueU (y :: r)).map (x :: ·)
/-- No c that is not escaped. -/
def NoU (c : UInt8) : Str → Prop
  | [] => True
  | [x] => x ≠ c
  | x :: y :: r => x ≠ c ∧ if x = 92 then NoU c r else NoU c (y :: r)

theorem NoU.take {c : UInt8} : ∀ {s : Str} (n : Nat), NoU c s → NoU c (s.take n)
  | [], n, h => by simpa using h
  | [x], 0, h => by simp [NoU]
  | [x], n + 1, h => by simpa using h
  | x :: y :: r, 0, h => by simp [NoU]
  | x :: y :: r, 1, h => by simp only [NoU] at h; simp [NoU, h.1]
  | x :: y :: r, n + 2, h => by
    simp only [NoU] at h
    have e : List.take (n + 2) (x :: y :: r) = x :: y :: List.take n r := rfl
    rw [e]
    refine ⟨h.1, ?_⟩
    by_cases h1 : x = 92
    · rw [if_pos h1] at h ⊢
      exact NoU.take n h.2
    · rw [if_neg h1] at h ⊢
      exact NoU.take (n + 1) h.2
theorem NoU.tail {c x : UInt8} {s : Str} (h : NoU c (x :: s)) (hx : x ≠ 92) : NoU c s := by
  cases s with
  | nil => simp [NoU]
  | cons y r => simp only [NoU, if_neg hx] at h; exact h.2
theorem NoU.after {c d : UInt8} (hd : d ≠ 92) : ∀ {s : Str}, NoU c s → NoU c (s.drop (nextU d s + 1))
  | [], h => by simpa using h
  | [x], h => by simp only [nextU]; split <;> simp [NoU]
  | x :: y :: r, h => by
    simp only [nextU]
    by_cases h1 : x = d
    · rw [if_pos h1]
      exact h.tail (by rw [h1]; exact hd)
    · rw [if_neg h1]
      simp only [NoU] at h
      by_cases h2 : x = 92
      · rw [if_pos h2] at h ⊢
        have e : 2 + nextU d r + 1 = (nextU d r + 1) + 2 := by omega
        rw [e]
        exact NoU.after hd h.2
      · rw [if_neg h2] at h ⊢
        have e : 1 + nextU d (y :: r) + 1 = (nextU d (y :: r) + 1) + 1 := by omega
        rw [e]
        exact NoU.after hd h.2
theorem NoU.before {c : UInt8} : ∀ {s : Str}, NoU c (s.take (nextU c s))
  | [] => by simp [NoU]
  | [x] => by
    simp only [nextU]
    split
    · simp [NoU]
    · rename_i h; simpa [NoU] using h
  | x :: y :: r => by
    simp only [nextU]
    by_cases h1 : x = c
    · simp [h1, NoU]
    · rw [if_neg h1]
      by_cases h2 : x = 92
      · rw [if_pos h2]
        have e : 2 + nextU c r = nextU c r + 2 := by omega
        rw [e]
        refine ⟨h1, ?_⟩
        rw [if_pos h2]
        exact NoU.before
      · rw [if_neg h2]
        have ih := NoU.before (c := c) (s := y :: r)
        have e : 1 + nextU c (y :: r) = nextU c (y :: r) + 1 := by omega
        rw [e, List.take_succ_cons]
        generalize List.take (nextU c (y :: r)) (y :: r) = t at *
        cases t with
        | nil => exact h1
        | cons z t => exact ⟨h1, by rw [if_neg h2]; exact ih⟩
abbrev Pair := Str × Str
def pairD (p : Pair) : D := .agg [.str p.1, .str p.2]
def pairs (l : List Pair) : D := .sl (l.map pairD)

/-- The component of a piece. -/
def compU (s : Str) : Pair × Int :=
  if nextU 61 s < s.length then
    (match valueU (trimB (s.drop (nextU 61 s + 1))) with
     | none => (([], []), 4)
     | some v => if nameB (trimB (s.take (nextU 61 s))) = false then (([], []), 5) else if cleanB v = false then (([], []), 8) else ((trimB (s.take (nextU 61 s)), v), 0))
  else (([], []), 4)
def compsU (out : List Pair) : List Str → List Pair × Int
  | [] => if 8 < out.length then ([], 3) else (out, 0)
  | p :: ps => if (compU p).2 = 0 then compsU (out ++ [(compU p).1]) ps else ([], (compU p).2)
def parseU (s : Str) : List Pair × Int := if s = [] then ([], 0) else compsU [] (piecesU s)

/-- Single spaces. -/
def sqz (prev : UInt8) : Str → Str
  | [] => []
  | x :: r => if x = 32 ∧ prev = 32 then sqz x r else x :: sqz x r
def foldS (s : Str) : Str := sqz 0 (lower (trimB s))
def escV (s : Str) : Str := s.flatMap fun c => if specB c = true then [92, c] else [c]
def fmtC (p : Pair) : Str := lower p.1 ++ 61 :: escV (foldS p.2)
def pairE (p : Pair) : Int := if nameB p.1 = false then 5 else if cleanB p.2 = false then 8 else 0
def pairsE : List Pair → Int
  | [] => 0
  | p :: l => if pairE p = 0 then pairsE l else pairE p
def checkU (l : List Pair) : Int := if pairsE l = 0 then (if 8 < l.length then 3 else 0) else pairsE l
def formatU (l : List Pair) : Str × Int := if checkU l = 0 then (joinB 44 (l.map fmtC), 0) else ([], checkU l)
/-- A string's components, where it is in normal form. -/
def normU (s : Str) : Option (List Pair) := if (parseU s).2 = 0 ∧ formatU (parseU s).1 = (s, 0) then some (parseU s).1 else none
def validU (s : Str) : Bool := (normU s).isSome

/-! ### what is in normal form -/
/-- Complete, and without a comma that is not escaped. -/
def CU : Str → Prop
  | [] => True
  | [x] => x ≠ 92 ∧ x ≠ 44
  | x :: y :: r => x ≠ 44 ∧ if x = 92 then CU r else CU (y :: r)
theorem CU.next : ∀ {p : Str}, CU p → ∀ (r : Str), nextU 44 (p ++ 44 :: r) = p.length
  | [], _, r => by cases r <;> simp [nextU]
  | [x], h, r => by
    simp only [CU] at h
    have i := CU.next (p := []) trivial r
    simp only [List.nil_append] at i
    simp [nextU, h.1, h.2, i]
  | x :: y :: t, h, r => by
    simp only [CU] at h
    by_cases h2 : x = 92
    · rw [if_pos h2] at h
      have i := CU.next h.2 r
      simp only [List.cons_append, nextU, if_neg h.1, if_pos h2, i, List.length_cons]
      omega
    · rw [if_neg h2] at h
      have i := CU.next h.2 r
      simp only [List.cons_append] at i
      simp only [List.cons_append, nextU, if_neg h.1, if_neg h2, i, List.length_cons]
      omega
theorem CU.all : ∀ {p : Str}, CU p → nextU 44 p = p.length
  | [], _ => by simp [nextU]
  | [x], h => by simp only [CU] at h; simp [nextU, h.2]
  | x :: y :: t, h => by
    simp only [CU] at h
    by_cases h2 : x = 92
    · rw [if_pos h2] at h
      have i := CU.all h.2
      simp only [nextU, if_neg h.1, if_pos h2, i, List.length_cons]
      omega
    · rw [if_neg h2] at h
      have i := CU.all h.2
      simp only [nextU, if_neg h.1, if_neg h2, i, List.length_cons]
      omega
theorem CU.cons {x : UInt8} {s : Str} (h1 : x ≠ 92) (h2 : x ≠ 44) (h : CU s) : CU (x :: s) := by
  cases s with
  | nil => exact ⟨h1, h2⟩
  | cons y r => exact ⟨h2, by rw [if_neg h1]; exact h⟩
theorem CU.esc {y : UInt8} {s : Str} (h : CU s) : CU (92 :: y :: s) := ⟨by decide, by rw [if_pos rfl]; exact h⟩
theorem CU.escV : ∀ (s : Str), CU (escV s)
  | [] => trivial
  | c :: s => by
    have ih := CU.escV s
    have e : Tz.escV (c :: s) = (if specB c = true then [92, c] else [c]) ++ Tz.escV s := by simp [Tz.escV]
    rw [e]
    by_cases h : specB c = true
    · rw [if_pos h]; exact ih.esc
    · rw [if_neg h]
      refine ih.cons ?_ ?_
      · rintro rfl; exact h (by decide)
      · rintro rfl; exact h (by decide)
theorem CU.pre : ∀ {a : Str} {b : Str}, (∀ x ∈ a, x ≠ 92 ∧ x ≠ 44) → CU b → CU (a ++ b)
  | [], b, _, h => h
  | x :: a, b, hx, h => CU.cons (hx x (by simp)).1 (hx x (by simp)).2 (CU.pre (fun y hy => hx y (by simp [hy])) h)
/-- A pair in normal form. -/
def NP (p : Pair) : Prop := compU (fmtC p) = (p, 0)
theorem compU_ok {s : Str} {p : Pair} (h : compU s = (p, 0)) : nameB p.1 = true ∧ cleanB p.2 = true := by
  unfold compU at h
  split at h
  · split at h
    · simp at h
    · split at h
      · simp at h
      · split at h
        · simp at h
        · rename_i h1 h2
          simp only [Prod.mk.injEq, and_true] at h
          obtain ⟨rfl⟩ := h
          exact ⟨by simpa using h1, by simpa using h2⟩
  · simp at h
theorem NP.pairE {p : Pair} (h : NP p) : pairE p = 0 := by
  have := compU_ok h
  simp [Tz.pairE, this.1, this.2]
theorem pairsE_zero {l : List Pair} : pairsE l = 0 ↔ ∀ p ∈ l, pairE p = 0 := by
  induction l with
  | nil => simp [pairsE]
  | cons p l ih =>
    simp only [pairsE, List.mem_cons, forall_eq_or_imp]
    by_cases h : pairE p = 0
    · simp [h, ih]
    · simp [h]
theorem compsU_inv : ∀ {ps : List Str} {out r : List Pair}, compsU out ps = (r, 0) → ∃ qs, r = out ++ qs ∧ ps.length = qs.length ∧ r.length ≤ 8 ∧ ∀ i (h1 : i < ps.length) (h2 : i < qs.length), compU ps[i] = (qs[i], 0)
  | [], out, r, h => by
    simp only [compsU] at h
    split at h
    · simp at h
    · rename_i h8
      simp only [Prod.mk.injEq, and_true] at h
      subst h
      exact ⟨[], by simp, rfl, by omega, fun i h1 => by simp at h1⟩
  | p :: ps, out, r, h => by
    simp only [compsU] at h
    split at h
    · rename_i h0
      obtain ⟨qs, hr, hl, h8, hq⟩ := compsU_inv h
      refine ⟨(compU p).1 :: qs, by rw [hr]; simp, by simp [hl], h8, fun i h1 h2 => ?_⟩
      cases i with
      | zero => simp only [List.getElem_cons_zero]; rw [← h0]
      | succ i => simpa using hq i (by simpa using h1) (by simpa using h2)
    · rename_i h0
      simp only [Prod.mk.injEq] at h
      exact absurd h.2 h0

end Go.Proofs.Tz

/- Change records: the plain law (no program in sight). -/
set_option linter.unusedVariables false
set_option linter.unusedSimpArgs false
namespace Go.Proofs.Tz
open Go.Vw Go.RowKit Go.Proofs

/-- A record: its number, kind, identifier, name, attribute, value. -/
abbrev Chg := Csn × Int × Str × Str × Str × Str
def chgD (c : Chg) : D := .agg [csnD c.1, .int .i64 c.2.1, .str c.2.2.1, .str c.2.2.2.1, .str c.2.2.2.2.1, .str c.2.2.2.2.2]
def chgs (l : List Chg) : D := .sl (l.map chgD)
structure FitC (c : Chg) : Prop where
  id : List.length c.2.2.1 < 900000
  name : List.length c.2.2.2.1 < 900000
  attr : List.length c.2.2.2.2.1 < 900000
  value : List.length c.2.2.2.2.2 < 900000
def namedK (op : Int) : Bool := decide (op = 1) || decide (op = 3)
def valuedK (op : Int) : Bool := decide (op = 4) || decide (op = 5)
def unusedB (c : Chg) : Bool := (!namedK c.2.1 && decide (c.2.2.2.1 ≠ [])) || (!valuedK c.2.1 && (decide (c.2.2.2.2.1 ≠ []) || decide (c.2.2.2.2.2 ≠ [])))
def badName (c : Chg) : Bool := (namedK c.2.1 && (decide (c.2.2.2.1 = []) || !validU c.2.2.2.1)) || (valuedK c.2.1 && (!nameB c.2.2.2.2.1 || decide (lower c.2.2.2.2.1 ≠ c.2.2.2.2.1)))
def chkC (c : Chg) : Int :=
  if validC c.1 = false ∨ c.2.1 < 1 ∨ 5 < c.2.1 then 2
  else if (parseC c.2.2.1).2 ≠ 0 ∨ unusedB c = true then 4
  else if badName c = true then 5
  else if valuedK c.2.1 = true ∧ cleanB c.2.2.2.2.2 = false then 8 else 0

abbrev o1W : Str := [99, 114, 101, 97, 116, 101]
abbrev o2W : Str := [114, 101, 109, 111, 118, 101]
abbrev o3W : Str := [114, 101, 110, 97, 109, 101]
abbrev o4W : Str := [112, 117, 116]
abbrev o5W : Str := [100, 114, 111, 112]
def opW (x : Int) : Str := if x = 1 then o1W else if x = 2 then o2W else if x = 3 then o3W else if x = 4 then o4W else if x = 5 then o5W else []
def opV (w : Str) : Int := if w = o1W then 1 else if w = o2W then 2 else if w = o3W then 3 else if w = o4W then 4 else if w = o5W then 5 else 0
theorem opV_opW {x : Int} (h1 : 1 ≤ x) (h5 : x ≤ 5) : opV (opW x) = x := by
  have : x = 1 ∨ x = 2 ∨ x = 3 ∨ x = 4 ∨ x = 5 := by omega
  rcases this with rfl | rfl | rfl | rfl | rfl <;> decide
theorem opW_opV {w : Str} (h : opV w ≠ 0) : opW (opV w) = w ∧ 1 ≤ opV w ∧ opV w ≤ 5 := by
  unfold opV at *
  split
  · rename_i e; subst e; decide
  · rename_i n1
    rw [if_neg n1] at h
    split
    · rename_i e; subst e; decide
    · rename_i n2
      rw [if_neg n2] at h
      split
      · rename_i e; subst e; decide
      · rename_i n3
        rw [if_neg n3] at h
        split
        · rename_i e; subst e; decide
        · rename_i n4
          rw [if_neg n4] at h
          split
          · rename_i e; subst e; decide
          · rename_i n5
            rw [if_neg n5] at h; exact absurd rfl h
def lineWs (c : Chg) : List Str :=
  if namedK c.2.1 = true then [opW c.2.1, formatC c.1, c.2.2.1, escS c.2.2.2.1]
  else if valuedK c.2.1 = true then [opW c.2.1, formatC c.1, c.2.2.1, escS c.2.2.2.2.1, escS c.2.2.2.2.2]
  else [opW c.2.1, formatC c.1, c.2.2.1]
def lineC (c : Chg) : Str := joinB 32 (lineWs c)
def lineCT (c : Chg) : Str × Int := if chkC c = 0 then (lineC c, 0) else ([], chkC c)
def finC (s : Str) (e : Int) (c : Chg) : Option Chg := if e = 0 ∧ chkC c = 0 ∧ lineC c = s then some c else none
def ofWs (s : Str) : List Str → Option Chg
  | [a, b, i] => finC s (parseC b).2 ((parseC b).1, opV a, i, [], [], [])
  | [a, b, i, n] => finC s (parseC b).2 ((parseC b).1, opV a, i, (unescP n).1, [], [])
  | [a, b, i, x, y] => finC s (parseC b).2 ((parseC b).1, opV a, i, [], (unescP x).1, (unescP y).1)
  | _ => none
def readC (s : Str) : Option Chg := ofWs s (splitB 32 s)
def zeroC : Chg := ((0, 0, 0), 0, [], [], [], [])
def parseCT (s : Str) : Chg × Int := match readC s with
  | some c => (c, 0)
  | none => (zeroC, 4)

structure OkC (c : Chg) : Prop where
  num : validC c.1 = true
  op1 : 1 ≤ c.2.1
  op5 : c.2.1 ≤ 5
  id : (parseC c.2.2.1).2 = 0
  used : unusedB c = false
  name : badName c = false
  value : ¬ (valuedK c.2.1 = true ∧ cleanB c.2.2.2.2.2 = false)
theorem chkC_zero {c : Chg} : chkC c = 0 ↔ OkC c := by
  unfold chkC
  constructor
  · intro h
    split at h
    · cases h
    · rename_i h1
      split at h
      · cases h
      · rename_i h2
        split at h
        · cases h
        · rename_i h3
          split at h
          · cases h
          · rename_i h4
            simp only [not_or, Bool.not_eq_false, Int.not_lt] at h1
            simp only [not_or, Classical.not_not, Bool.not_eq_true, ne_eq] at h2
            exact ⟨h1.1, h1.2.1, h1.2.2, h2.1, h2.2, by simpa using h3, h4⟩
  · rintro ⟨a, b, c', d, e, f, g⟩
    rw [if_neg (by rw [a]; simp; omega), if_neg (by rw [d, e]; simp), if_neg (by rw [f]; simp), if_neg g]
theorem low_no32 : (32 : UInt8) ∉ hexLow ∧ (10 : UInt8) ∉ hexLow := by decide
theorem id_no {s : Str} (h : (parseC s).2 = 0) {d : UInt8} (hd : d = 32 ∨ d = 10) : d ∉ s := by
  have h1 : parseC s = ((parseC s).1, 0) := by rw [← h]
  have h2 := (format_parse h1).1
  rw [← h2]
  rcases hd with rfl | rfl
  · exact formatC_no low_no32.1 (by decide) (by decide)
  · exact formatC_no low_no32.2 (by decide) (by decide)
theorem opW_no {x : Int} {d : UInt8} (hd : d = 32 ∨ d = 10) : d ∉ opW x := by
  unfold opW
  rcases hd with rfl | rfl
  all_goals
    split
    · decide
    · split
      · decide
      · split
        · decide
        · split
          · decide
          · split <;> decide
theorem lineWs_no {c : Chg} (h : OkC c) {d : UInt8} (hd : d = 32 ∨ d = 10) : ∀ w ∈ lineWs c, d ∉ w := by
  have hf : d ∉ formatC c.1 := by
    rcases hd with rfl | rfl
    · exact formatC_no low_no32.1 (by decide) (by decide)
    · exact formatC_no low_no32.2 (by decide) (by decide)
  have hi := id_no h.id hd
  have ho := opW_no (x := c.2.1) hd
  have he : ∀ s, d ∉ escS s := fun s => by
    rcases hd with rfl | rfl
    · exact escS_no32 s
    · exact escS_no10 s
  unfold lineWs
  intro w hw
  split at hw
  · simp only [List.mem_cons, List.not_mem_nil, or_false] at hw
    rcases hw with rfl | rfl | rfl | rfl
    · exact ho
    · exact hf
    · exact hi
    · exact he _
  · split at hw
    · simp only [List.mem_cons, List.not_mem_nil, or_false] at hw
      rcases hw with rfl | rfl | rfl | rfl | rfl
      · exact ho
      · exact hf
      · exact hi
      · exact he _
      · exact he _
    · simp only [List.mem_cons, List.not_mem_nil, or_false] at hw
      rcases hw with rfl | rfl | rfl
      · exact ho
      · exact hf
      · exact hi
theorem unescP_esc (s : Str) : (unescP (escS s)).1 = s := by rw [unescP_some (unesc_esc s)]
theorem lineWs_ne (c : Chg) : lineWs c ≠ [] := by unfold lineWs; split <;> (try split) <;> simp
theorem readC_line {c : Chg} (h : chkC c = 0) : readC (lineC c) = some c := by
  have ho := chkC_zero.1 h
  have hs := split_join (c := 32) (lineWs_ne c) (lineWs_no ho (.inl rfl))
  have hp := parse_format ho.num
  have hv := opV_opW ho.op1 ho.op5
  have hu := ho.used
  have hl : lineC c = joinB 32 (lineWs c) := rfl
  rw [readC]
  rw [← hl] at hs
  rw [hs]
  obtain ⟨n, op, id, nm, at_, va⟩ := c
  simp only [unusedB, Bool.or_eq_false_iff, Bool.and_eq_false_iff, Bool.not_eq_false', decide_eq_false_iff_not, Classical.not_not, ne_eq] at hu
  simp only at hp hv
  unfold lineWs
  by_cases h1 : namedK op = true
  · have h2 : valuedK op = false := by
      simp only [namedK, valuedK, Bool.or_eq_true, decide_eq_true_eq, Bool.or_eq_false_iff, decide_eq_false_iff_not] at h1 ⊢
      omega
    obtain ⟨e1, e2⟩ : at_ = [] ∧ va = [] := by
      rcases hu.2 with e | e
      · rw [h2] at e; cases e
      · exact e
    subst e1; subst e2
    simp only [h1, if_true, ofWs, hp, hv, unescP_esc]
    exact if_pos ⟨rfl, h, rfl⟩
  · have h1' : namedK op = false := by simpa using h1
    obtain rfl : nm = [] := by
      rcases hu.1 with e | e
      · rw [h1'] at e; cases e
      · exact e
    by_cases h2 : valuedK op = true
    · simp only [h1', h2, Bool.false_eq_true, if_false, if_true, ofWs, hp, hv, unescP_esc]
      exact if_pos ⟨rfl, h, rfl⟩
    · have h2' : valuedK op = false := by simpa using h2
      obtain ⟨e1, e2⟩ : at_ = [] ∧ va = [] := by
        rcases hu.2 with e | e
        · rw [h2'] at e; cases e
        · exact e
      subst e1; subst e2
      simp only [h1', h2', Bool.false_eq_true, if_false, ofWs, hp, hv]
      exact if_pos ⟨rfl, h, rfl⟩
theorem lineC_inj {c d : Chg} (h1 : chkC c = 0) (h2 : chkC d = 0) (h : lineC c = lineC d) : c = d := by
  have a := readC_line h1
  rw [h, readC_line h2] at a
  exact (Option.some.inj a).symm
/-! ### texts -/
def readGo (s : Str) (out : List Chg) : List Chg × Int × Int :=
  if s = [] then (out, 0, 0)
  else if 4096 ≤ out.length then ([], (out.length : Int) + 1, 3)
  else if h : 0 ≤ ixB s 10 then (match readC (s.take (ixB s 10).toNat) with
    | none => ([], (out.length : Int) + 1, 4)
    | some r => readGo (s.drop ((ixB s 10).toNat + 1)) (out ++ [r]))
  else ([], (out.length : Int) + 1, 31)
  termination_by s.length
  decreasing_by
  have := ixB_lt h
  simp
  omega
theorem readGo_nil (out : List Chg) : readGo [] out = (out, 0, 0) := by rw [readGo.eq_def]; rfl
theorem readGo_lim {s : Str} {out : List Chg} (h1 : s ≠ []) (h2 : 4096 ≤ out.length) : readGo s out = ([], (out.length : Int) + 1, 3) := by
  rw [readGo.eq_def, if_neg h1, if_pos h2]
theorem readGo_no {s : Str} {out : List Chg} (h1 : s ≠ []) (h2 : ¬ 4096 ≤ out.length) (h3 : ixB s 10 < 0) : readGo s out = ([], (out.length : Int) + 1, 31) := by
  rw [readGo.eq_def, if_neg h1, if_neg h2, dif_neg (by omega)]
theorem readGo_at {s : Str} {out : List Chg} {k : Nat} (h2 : ¬ 4096 ≤ out.length) (h3 : ixB s 10 = k) : readGo s out = match readC (s.take k) with
    | none => ([], (out.length : Int) + 1, 4)
    | some r => readGo (s.drop (k + 1)) (out ++ [r]) := by
  have h1 : s ≠ [] := fun e => by subst e; simp [ixB, Go.Lib.indexByte] at h3
  rw [readGo.eq_def, if_neg h1, if_neg h2, dif_pos (by omega), h3]
  rfl
end Go.Proofs.Tz

/- Change records: merging, the plain law (no program in sight). -/
set_option linter.unusedVariables false
set_option linter.unusedSimpArgs false
namespace Go.Proofs.Tz
open Go.Vw Go.RowKit Go.Proofs

/-- The records of S that count, in the order of their numbers; of those with one number, the one with the least line. -/
structure MergeS (S R : List Chg) : Prop where
  asc : R.Pairwise fun a b => cmpC a.1 b.1 < 0
  mem : ∀ r, r ∈ R ↔ (r ∈ S ∧ chkC r = 0 ∧ ∀ r' ∈ S, chkC r' = 0 → r'.1 = r.1 → lineC r ≤ lineC r')

theorem cmpC_self (a : Csn) : cmpC a a = 0 := cmpC_zero.2 rfl
theorem asc_ext {R R' : List Chg} (h1 : R.Pairwise fun a b => cmpC a.1 b.1 < 0) (h2 : R'.Pairwise fun a b => cmpC a.1 b.1 < 0) (h : ∀ r, r ∈ R ↔ r ∈ R') : R = R' := by
  have n1 : R.Nodup := h1.imp fun {a b} hab e => by rw [e, cmpC_self] at hab; omega
  have n2 : R'.Nodup := h2.imp fun {a b} hab e => by rw [e, cmpC_self] at hab; omega
  have hp := (List.perm_ext_iff_of_nodup n1 n2).2 h
  refine List.Perm.eq_of_pairwise (le := fun a b => cmpC a.1 b.1 < 0) (fun a b _ _ x y => ?_) h1 h2 hp
  have := cmpC_anti a.1 b.1
  omega
theorem MergeS.uniq {S S' R R' : List Chg} (h : MergeS S R) (h' : MergeS S' R') (hS : ∀ r, r ∈ S ↔ r ∈ S') : R = R' := by
  refine asc_ext h.asc h'.asc fun r => ?_
  rw [h.mem, h'.mem, hS]
  simp only [hS]
theorem MergeS.good {S R : List Chg} (h : MergeS S R) {r : Chg} (hr : r ∈ R) : chkC r = 0 := ((h.mem r).1 hr).2.1
/-- Of every number that counts, one stays. -/
theorem MergeS.has {S R : List Chg} (h : MergeS S R) : ∀ {r : Chg}, r ∈ S → chkC r = 0 → ∃ x ∈ R, x.1 = r.1 ∧ lineC x ≤ lineC r := by
  have key : ∀ (T : List Chg) (r : Chg), (∀ t ∈ T, t ∈ S) → r ∈ S → chkC r = 0 → ∃ x ∈ S, chkC x = 0 ∧ x.1 = r.1 ∧ lineC x ≤ lineC r ∧ ∀ t ∈ T, chkC t = 0 → t.1 = r.1 → lineC x ≤ lineC t := by
    intro T
    induction T with
    | nil => intro r _ hr hc; exact ⟨r, hr, hc, rfl, List.le_refl _, by simp⟩
    | cons t T ih =>
      intro r hT hr hc
      obtain ⟨x, hx, hxc, hx1, hxl, hxm⟩ := ih r (fun y hy => hT y (by simp [hy])) hr hc
      by_cases ht : chkC t = 0 ∧ t.1 = r.1
      · rcases List.le_total (lineC x) (lineC t) with hle | hle
        · exact ⟨x, hx, hxc, hx1, hxl, fun y hy hyc hy1 => by
            rcases List.mem_cons.1 hy with rfl | hy
            · exact hle
            · exact hxm y hy hyc hy1⟩
        · exact ⟨t, hT t (by simp), ht.1, ht.2, List.le_trans hle hxl, fun y hy hyc hy1 => by
            rcases List.mem_cons.1 hy with rfl | hy
            · exact List.le_refl _
            · exact List.le_trans hle (hxm y hy hyc hy1)⟩
      · exact ⟨x, hx, hxc, hx1, hxl, fun y hy hyc hy1 => by
          rcases List.mem_cons.1 hy with rfl | hy
          · exact absurd ⟨hyc, hy1⟩ ht
          · exact hxm y hy hyc hy1⟩
  intro r hr hc
  obtain ⟨x, hx, hxc, hx1, hxl, hxm⟩ := key S r (fun _ h => h) hr hc
  exact ⟨x, (h.mem x).2 ⟨hx, hxc, fun t ht htc ht1 => hxm t ht htc (by rw [ht1, hx1])⟩, hx1, hxl⟩

/-- A record put into its place, as the reference does it. -/
def addGo (c : Chg) : Bool → List Chg → List Chg
  | done, [] => if done then [] else [c]
  | done, x :: l => (if 0 < cmpC x.1 c.1 ∧ done = false then [c] else []) ++ (if cmpC x.1 c.1 ≠ 0 then [x] else [if lineC x ≤ lineC c then x else c]) ++ addGo c (done || decide (0 ≤ cmpC x.1 c.1)) l
def addC (l : List Chg) (c : Chg) : List Chg := if chkC c = 0 then addGo c false l else l
def mergeL (a b : List Chg) : List Chg := (a ++ b).foldl addC []

theorem addGo_done (c : Chg) : ∀ {l : List Chg}, (∀ x ∈ l, 0 < cmpC x.1 c.1) → addGo c true l = l
  | [], _ => rfl
  | x :: l, h => by
    have h1 := h x (by simp)
    have h2 : cmpC x.1 c.1 ≠ 0 := by omega
    simp [addGo, h2, addGo_done c (l := l) (fun y hy => h y (by simp [hy]))]
theorem addGo_mem (c : Chg) : ∀ {l : List Chg}, (l.Pairwise fun a b => cmpC a.1 b.1 < 0) →
    (addGo c false l).Pairwise (fun a b => cmpC a.1 b.1 < 0) ∧ (∀ x ∈ addGo c false l, x ∈ l ∨ x.1 = c.1) ∧
    ∀ r, r ∈ addGo c false l ↔ (r ∈ l ∧ (r.1 = c.1 → lineC r ≤ lineC c)) ∨ (r = c ∧ ∀ x ∈ l, x.1 = c.1 → ¬ lineC x ≤ lineC c)
  | [], _ => by simp [addGo]
  | x :: l, h => by
    obtain ⟨h1, h2⟩ := List.pairwise_cons.1 h
    obtain ⟨i1, i2, i3⟩ := addGo_mem c h2
    have hgt : ∀ y ∈ l, 0 ≤ cmpC x.1 c.1 → 0 < cmpC y.1 c.1 := fun y hy hx => by
      have a := h1 y hy
      have b := cmpC_anti y.1 c.1
      have b2 := cmpC_anti x.1 c.1
      by_cases e : cmpC x.1 c.1 = 0
      · rw [cmpC_zero] at e
        rw [e] at a
        omega
      · have := cmpC_trans (show cmpC c.1 x.1 < 0 by omega) a
        omega
    by_cases hlt : cmpC x.1 c.1 < 0
    · have hne : cmpC x.1 c.1 ≠ 0 := by omega
      have e : addGo c false (x :: l) = x :: addGo c false l := by
        have c1 : ¬ (0 < cmpC x.1 c.1) := by omega
        have c2 : ¬ (0 ≤ cmpC x.1 c.1) := by omega
        simp [addGo, c1, c2, hne]
      have hxc : ¬ x.1 = c.1 := fun e => hne (cmpC_zero.2 e)
      rw [e]
      refine ⟨List.pairwise_cons.2 ⟨fun y hy => ?_, i1⟩, fun y hy => ?_, fun r => ?_⟩
      · rcases i2 y hy with hy | hy
        · exact h1 y hy
        · rw [hy]; exact hlt
      · rcases List.mem_cons.1 hy with rfl | hy
        · exact .inl (by simp)
        · rcases i2 y hy with hy | hy
          · exact .inl (by simp [hy])
          · exact .inr hy
      · rw [List.mem_cons, i3, List.mem_cons]
        constructor
        · rintro (rfl | ⟨a, b⟩ | ⟨a, b⟩)
          · exact .inl ⟨.inl rfl, fun e => absurd e hxc⟩
          · exact .inl ⟨.inr a, b⟩
          · exact .inr ⟨a, fun y hy => by
              rcases List.mem_cons.1 hy with rfl | hy
              · exact fun e => absurd e hxc
              · exact b y hy⟩
        · rintro (⟨rfl | a, b⟩ | ⟨a, b⟩)
          · exact .inl rfl
          · exact .inr (.inl ⟨a, b⟩)
          · exact .inr (.inr ⟨a, fun y hy => b y (by simp [hy])⟩)
    · have hge : 0 ≤ cmpC x.1 c.1 := by omega
      have hdone := addGo_done c (l := l) (fun y hy => hgt y hy hge)
      by_cases h0 : cmpC x.1 c.1 = 0
      · have hxc : x.1 = c.1 := cmpC_zero.1 h0
        have e : addGo c false (x :: l) = (if lineC x ≤ lineC c then x else c) :: l := by
          simp [addGo, h0, hdone]
        have hlc : ∀ y ∈ l, ¬ y.1 = c.1 := fun y hy e => by
          have := hgt y hy hge
          rw [e, cmpC_self] at this
          omega
        rw [e]
        have hf1 : (if lineC x ≤ lineC c then x else c).1 = c.1 := by split <;> simp [hxc]
        refine ⟨List.pairwise_cons.2 ⟨fun y hy => ?_, h2⟩, fun y hy => ?_, fun r => ?_⟩
        · rw [hf1, ← hxc]; exact h1 y hy
        · rcases List.mem_cons.1 hy with rfl | hy
          · exact .inr hf1
          · exact .inl (by simp [hy])
        · rw [List.mem_cons, List.mem_cons]
          by_cases hle : lineC x ≤ lineC c
          · rw [if_pos hle]
            constructor
            · rintro (rfl | a)
              · exact .inl ⟨.inl rfl, fun _ => hle⟩
              · exact .inl ⟨.inr a, fun e => absurd e (hlc r a)⟩
            · rintro (⟨rfl | a, b⟩ | ⟨a, b⟩)
              · exact .inl rfl
              · exact .inr a
              · exact absurd hle (b x (by simp) hxc)
          · rw [if_neg hle]
            constructor
            · rintro (rfl | a)
              · exact .inr ⟨rfl, fun y hy => by
                  rcases List.mem_cons.1 hy with rfl | hy
                  · exact fun _ => hle
                  · exact fun e => absurd e (hlc y hy)⟩
              · exact .inl ⟨.inr a, fun e => absurd e (hlc r a)⟩
            · rintro (⟨rfl | a, b⟩ | ⟨a, b⟩)
              · exact absurd (b hxc) hle
              · exact .inr a
              · exact .inl a
      · have hpos : 0 < cmpC x.1 c.1 := by omega
        have hxc : ¬ x.1 = c.1 := fun e => h0 (cmpC_zero.2 e)
        have e : addGo c false (x :: l) = c :: x :: l := by
          simp [addGo, h0, hpos, hge, hdone]
        have hlc : ∀ y ∈ l, ¬ y.1 = c.1 := fun y hy e => by
          have := hgt y hy hge
          rw [e, cmpC_self] at this
          omega
        rw [e]
        refine ⟨List.pairwise_cons.2 ⟨fun y hy => ?_, h⟩, fun y hy => ?_, fun r => ?_⟩
        · have a := cmpC_anti y.1 c.1
          rcases List.mem_cons.1 hy with rfl | hy
          · omega
          · have := hgt y hy hge; omega
        · rcases List.mem_cons.1 hy with rfl | hy
          · exact .inr rfl
          · exact .inl hy
        · constructor
          · intro hr
            rcases List.mem_cons.1 hr with rfl | hr
            · exact .inr ⟨rfl, fun y hy => by
                rcases List.mem_cons.1 hy with rfl | hy
                · exact fun e => absurd e hxc
                · exact fun e => absurd e (hlc y hy)⟩
            · exact .inl ⟨hr, fun e' => by
                rcases List.mem_cons.1 hr with rfl | hr
                · exact absurd e' hxc
                · exact absurd e' (hlc r hr)⟩
          · rintro (⟨a, b⟩ | ⟨a, b⟩)
            · exact List.mem_cons.2 (.inr a)
            · exact List.mem_cons.2 (.inl a)
theorem MergeS.add {S R : List Chg} (h : MergeS S R) (c : Chg) : MergeS (S ++ [c]) (addC R c) := by
  unfold addC
  by_cases hc : chkC c = 0
  · rw [if_pos hc]
    obtain ⟨a1, a2, a3⟩ := addGo_mem c h.asc
    refine ⟨a1, fun r => ?_⟩
    rw [a3]
    simp only [List.mem_append, List.mem_singleton]
    constructor
    · rintro (⟨b1, b2⟩ | ⟨rfl, b2⟩)
      · obtain ⟨d1, d2, d3⟩ := (h.mem r).1 b1
        refine ⟨.inl d1, d2, fun r' hr' hc' he => ?_⟩
        rcases hr' with hr' | rfl
        · exact d3 r' hr' hc' he
        · exact b2 he.symm
      · refine ⟨.inr rfl, hc, fun r' hr' hc' he => ?_⟩
        rcases hr' with hr' | rfl
        · obtain ⟨x, x1, x2, x3⟩ := h.has hr' hc'
          have := b2 x x1 (by rw [x2, he])
          rcases List.le_total (lineC x) (lineC r) with hle | hle
          · exact absurd hle this
          · exact List.le_trans hle x3
        · exact List.le_refl _
    · rintro ⟨b1, b2, b3⟩
      by_cases hrR : r ∈ R
      · exact .inl ⟨hrR, fun e => b3 c (.inr rfl) hc e.symm⟩
      · rcases b1 with b1 | rfl
        · exact absurd ((h.mem r).2 ⟨b1, b2, fun r' hr' => b3 r' (.inl hr')⟩) hrR
        · refine .inr ⟨rfl, fun x hx e hle => ?_⟩
          have hxm := (h.mem x).1 hx
          have h1 := b3 x (.inl hxm.1) hxm.2.1 e
          have heq : lineC x = lineC r := List.le_antisymm hle h1
          exact hrR (lineC_inj hxm.2.1 b2 heq ▸ hx)
  · rw [if_neg hc]
    refine ⟨h.asc, fun r => ?_⟩
    rw [h.mem]
    simp only [List.mem_append, List.mem_singleton]
    constructor
    · rintro ⟨b1, b2, b3⟩
      refine ⟨.inl b1, b2, fun r' hr' hc' => ?_⟩
      rcases hr' with hr' | rfl
      · exact b3 r' hr' hc'
      · exact absurd hc' hc
    · rintro ⟨b1, b2, b3⟩
      rcases b1 with b1 | rfl
      · exact ⟨b1, b2, fun r' hr' => b3 r' (.inl hr')⟩
      · exact absurd b2 hc
theorem mergeS_fold : ∀ (l S R : List Chg), MergeS S R → MergeS (S ++ l) (l.foldl addC R)
  | [], S, R, h => by simpa using h
  | c :: l, S, R, h => by
    have := mergeS_fold l (S ++ [c]) (addC R c) (h.add c)
    rw [List.foldl_cons]
    simpa using this
theorem mergeS_nil : MergeS [] [] := ⟨List.Pairwise.nil, by simp⟩
theorem mergeL_spec (a b : List Chg) : MergeS (a ++ b) (mergeL a b) := by
  have := mergeS_fold (a ++ b) [] [] mergeS_nil
  simpa [mergeL] using this

end Go.Proofs.Tz

/- Names: bytes that are escaped, pieces. -/
set_option maxRecDepth 100000
set_option maxHeartbeats 4000000
set_option linter.unusedVariables false
set_option linter.unusedSimpArgs false
namespace Go.Proofs.Tz
open Go.Vw Go.RowKit Go.Proofs

theorem u8_eq (a b : UInt8) : ((a.toNat : Int) = (b.toNat : Int)) ↔ a = b := by
  constructor
  · intro h
    have : a.toNat = b.toNat := by omega
    exact UInt8.toNat_inj.1 this
  · rintro rfl; rfl
theorem specB_eq (c : UInt8) : specB c = (decide ((c.toNat : Int) = 44) || decide ((c.toNat : Int) = 61) || decide ((c.toNat : Int) = 43) || decide ((c.toNat : Int) = 92)) := by
  have h := fun k (hk : k < 256) => u8_int c k hk
  have h1 := h 44 (by omega)
  have h2 := h 61 (by omega)
  have h3 := h 43 (by omega)
  have h4 := h 92 (by omega)
  simp only [specB]
  congr 1
  · congr 1
    · congr 1
      · exact decide_eq_decide.2 h1.symm
      · exact decide_eq_decide.2 h2.symm
    · exact decide_eq_decide.2 h3.symm
  · exact decide_eq_decide.2 h4.symm

theorem nspecial_fn (c : UInt8) : Ctr Tryz.prog 191 [.d (u8 c)] (.d (.bool (specB c))) := by
  refine fn_of_vwp (fun _ => false) (by kernel_rfl) Tryz.func191 (by kernel_rfl) rfl rfl (Nat.le_of_ble_eq_true rfl) (by kernel_rfl) rfl rfl ?_
  rw [specB_eq]
  by_cases h1 : (c.toNat : Int) = 44 <;> by_cases h2 : (c.toNat : Int) = 61 <;> by_cases h3 : (c.toNat : Int) = 43 <;> simp -implicitDefEqProofs [u8, h1, h2, h3]
theorem nextU_drop {c : UInt8} {s : Str} {k : Nat} (h : k < s.length) : nextU c (s.drop k) = if s[k] = c then 0 else if s[k] = 92 then (if k + 1 < s.length then 2 + nextU c (s.drop (k + 2)) else 1) else 1 + nextU c (s.drop (k + 1)) := by
  rw [drop_c h]
  by_cases h2 : k + 1 < s.length
  · rw [drop_c h2, nextU]
    simp only [if_pos h2]
  · have e : s.drop (k + 1) = [] := List.drop_eq_nil_of_le (by omega)
    rw [e, nextU]
    simp only [if_neg h2, nextU]
    by_cases h3 : s[k] = 92 <;> simp [h3]

/-- The place, or -1. -/
def indexU (c : UInt8) (s : Str) : Int := if nextU c s < s.length then (nextU c s : Int) else -1

def NxI (c : UInt8) (s : Str) (k : Nat) : Prop := (k ≤ s.length → nextU c s = k + nextU c (s.drop k)) ∧ (s.length < k → nextU c s = s.length)
theorem NxI.zero (c : UInt8) (s : Str) : NxI c s 0 := ⟨fun _ => by simp, fun h => by omega⟩
theorem NxI.hit {c : UInt8} {s : Str} {k : Nat} (h : NxI c s k) (hk : k < s.length) (e : s[k] = c) : nextU c s = k := by
  rw [h.1 (by omega), nextU_drop hk, if_pos e]; rfl
theorem NxI.one {c : UInt8} {s : Str} {k : Nat} (h : NxI c s k) (hk : k < s.length) (e : s[k] ≠ c) (e2 : s[k] ≠ 92) : NxI c s (k + 1) := by
  refine ⟨fun _ => ?_, fun h => by omega⟩
  rw [h.1 (by omega), nextU_drop hk, if_neg e, if_neg e2]; omega
theorem NxI.two {c : UInt8} {s : Str} {k : Nat} (h : NxI c s k) (hk : k < s.length) (e : s[k] ≠ c) (e2 : s[k] = 92) : NxI c s (k + 2) := by
  have h1 := h.1 (by omega)
  rw [nextU_drop hk, if_neg e, if_pos e2] at h1
  refine ⟨fun h2 => ?_, fun h2 => ?_⟩
  · rw [h1, if_pos (by omega)]; omega
  · rw [h1, if_neg (by omega)]; omega
theorem NxI.over {c : UInt8} {s : Str} {k : Nat} (h : NxI c s k) (hk : ¬ k < s.length) : nextU c s = s.length := by
  by_cases e : k = s.length
  · rw [h.1 (by omega), e]; simp [nextU]
  · exact h.2 (by omega)

theorem nindex_fn (s : Str) (c : UInt8) (hs : List.length s < 1000000) : Ctr Tryz.prog 222 [.d (.str s), .d (u8 c)] (.d (.int .i64 (indexU c s))) := by
  refine fn_of_vwp (fun _ => false) (by kernel_rfl) Tryz.func222 (by kernel_rfl) rfl rfl (Nat.le_of_ble_eq_true rfl) (by kernel_rfl) rfl rfl ?_
  simp -implicitDefEqProofs [u8]
  refine loopN (List.length s + 1) (fun k τ => τ 0 = .d (.str s) ∧ τ 1 = .d (.int .u8 c.toNat) ∧ τ 5 = .d (.int .i64 k) ∧ NxI c s k) ⟨by simp, by simp, by simp, .zero c s⟩ ?_
  rintro k τ hk ⟨h0, h1, h5, hI⟩
  by_cases hlt : k < List.length s
  · by_cases h2 : s[k] = c
    · have h2' : (s[k].toNat : Int) = c.toNat := (u8_eq _ _).2 h2
      have hn := hI.hit hlt h2
      simp -implicitDefEqProofs [h0, h1, h5, hlt, h2']
      rw [indexU, hn, if_pos hlt]
    · have h2' : ¬ (s[k].toNat : Int) = c.toNat := fun e => h2 ((u8_eq _ _).1 e)
      by_cases h3 : s[k] = 92
      · have h3' : (s[k].toNat : Int) = 92 := (u8_int s[k] 92 (by omega)).2 h3
        have h9 : ¬ (92 : Int) = c.toNat := by rw [← h3']; exact h2'
        simp -implicitDefEqProofs [h0, h1, h5, hlt, h2', h3', h9]
        repeat refine And.intro (by omega) ?_
        exact again' (k' := k + 2) (by omega) (by omega) ⟨by simp [h0], by simp [h1], by simp; omega, hI.two hlt h2 h3⟩
      · have h3' : ¬ (s[k].toNat : Int) = 92 := fun e => h3 ((u8_int s[k] 92 (by omega)).1 e)
        simp -implicitDefEqProofs [h0, h1, h5, hlt, h2', h3']
        repeat refine And.intro (by omega) ?_
        exact again (by omega) ⟨by simp [h0], by simp [h1], by simp, hI.one hlt h2 h3⟩
  · have hn := hI.over hlt
    have hlt' : ¬ (k : Int) < (List.length s : Int) := by omega
    simp -implicitDefEqProofs [h0, h1, h5, hlt']
    rw [indexU, hn, if_neg (by omega)]

def PcI (s : Str) (m : Nat) (τ : St) : Prop := ∃ (rest : Str) (out : List Str), m = List.length rest ∧ τ 0 = .d (.str rest) ∧ τ 3 = .own true 9 (out.map .str) ∧ List.length rest ≤ List.length s ∧ out.length + List.length rest ≤ List.length s ∧ piecesU s = out ++ piecesU rest
theorem npieces_fn (s : Str) (hs : List.length s < 1000000) : Ctr Tryz.prog 187 [.d (.str s)] (.own true 9 ((piecesU s).map .str)) := by
  refine fn_of_vwp (fun i => decide (i < 1000000)) (by kernel_rfl) Tryz.func187 (by kernel_rfl) rfl rfl (Nat.le_of_ble_eq_true rfl) (by kernel_rfl) rfl rfl ?_
  simp -implicitDefEqProofs
  refine loopK (PcI s) (List.length s) ⟨s, [], rfl, by simp, by simp, by omega, by simp, by simp⟩ ?_
  rintro m τ ⟨rest, out, rfl, h0, h3, hr, ho, hp⟩
  simp -implicitDefEqProofs [h0, h3]
  refine callK (nindex_fn rest 44 (by omega)) ?_
  by_cases hlt : nextU 44 rest < rest.length
  · have hx : indexU 44 rest = (nextU 44 rest : Int) := by rw [indexU, if_pos hlt]
    have hp2 := piecesU_at hlt
    generalize hj : nextU 44 rest = j at *
    have i0 : ¬ (j : Int) < 0 := by omega
    have i1 : (0 : Int) ≤ (j : Int) + 1 := by omega
    have j1 : ((j : Int) + 1).toNat = j + 1 := by omega
    simp -implicitDefEqProofs [h0, h3, hx, i0, i1, j1]
    repeat refine And.intro (by omega) ?_
    refine ⟨List.length (rest.drop (j + 1)), by simp; omega, rest.drop (j + 1), out ++ [rest.take j], rfl, ?_, by simp, by simp; omega, by simp; omega, by rw [hp, hp2]; simp⟩
    simp
    exact List.take_of_length_le (by simp)
  · have hx : indexU 44 rest = -1 := by rw [indexU, if_neg hlt]
    simp -implicitDefEqProofs [h0, h3, hx]
    repeat refine And.intro (by omega) ?_
    rw [hp, piecesU_end hlt]
    simp
end Go.Proofs.Tz

/- Strings: Trim of the reference; Fold, in both. -/
set_option maxRecDepth 100000
set_option maxHeartbeats 4000000
set_option linter.unusedVariables false
set_option linter.unusedSimpArgs false
namespace Go.Proofs.Tz
open Go.Vw Go.RowKit Go.Proofs

/-! ### Fold -/
theorem trimB_len (s : Str) : (trimB s).length ≤ s.length := by
  have h1 : (trimLB 32 (trimRB 32 s)).length ≤ (trimRB 32 s).length := (List.dropWhile_sublist _).length_le
  have h2 : (trimRB 32 s).length ≤ s.length := by
    rw [trimRB, List.length_reverse]
    have := (List.dropWhile_sublist (l := s.reverse) fun x => decide (x = 32)).length_le
    simpa using this
  rw [trimB]; omega
theorem trimLB_head (s : Str) : (trimLB 32 s).head? ≠ some 32 := by
  induction s with
  | nil => simp [trimLB]
  | cons x s ih =>
    rw [trimLB, List.dropWhile_cons]
    by_cases hx : x = 32
    · rw [if_pos (by simp [hx])]; exact ih
    · rw [if_neg (by simp [hx])]; simpa using hx
theorem lowc_sp (c : UInt8) : lowc c = 32 ↔ c = 32 := by
  constructor
  · intro h
    by_cases h1 : 65 ≤ (c.toNat : Int) ∧ (c.toNat : Int) ≤ 90
    · have := lowc_toNat c h1.1 h1.2
      rw [h] at this
      have h3 : ((32 : UInt8).toNat : Int) = 32 := rfl
      omega
    · rw [lowc, if_neg h1] at h; exact h
  · rintro rfl; decide
theorem low_head {s : Str} (h : (lower (trimB s)).head? = some 32) : False := by
  have := trimLB_head (trimRB 32 s)
  rw [← trimB] at this
  cases hq : trimB s with
  | nil => rw [hq] at h; simp [lower] at h
  | cons x t =>
    rw [hq] at h this
    simp only [lower, List.map_cons, List.head?_cons, Option.some.injEq] at h
    exact this (by simp [(lowc_sp x).1 h])
theorem sqz_snoc : ∀ (a : Str) (p x : UInt8), sqz p (a ++ [x]) = sqz p a ++ (if x = 32 ∧ a.getLast?.getD p = 32 then [] else [x])
  | [], p, x => by by_cases h : x = 32 ∧ p = 32 <;> simp [sqz, h]
  | y :: a, p, x => by
    have ih1 := sqz_snoc a y x
    have ih2 := sqz_snoc a p x
    have hl : (y :: a).getLast?.getD p = a.getLast?.getD y := by rw [List.getLast?_cons]; rfl
    rw [hl]
    simp only [List.cons_append, sqz]
    by_cases h : y = 32 ∧ p = 32
    · obtain ⟨rfl, rfl⟩ := h
      simp only [and_self, if_true]
      exact ih1
    · rw [if_neg h, if_neg h, ih1]; rfl
theorem sqz_len : ∀ (a : Str) (p : UInt8), (sqz p a).length ≤ a.length
  | [], _ => by simp [sqz]
  | y :: a, p => by
    have h1 := sqz_len a p
    have h2 := sqz_len a y
    simp only [sqz]
    split <;> simp <;> omega
theorem foldS_len (s : Str) : (foldS s).length ≤ s.length := by
  have h1 := sqz_len (lower (trimB s)) 0
  rw [lower_len] at h1
  have := trimB_len s
  rw [foldS]; omega
theorem getLast_take {t : Str} {k : Nat} (h : k ≤ t.length) (h0 : 0 < k) (p : UInt8) : (t.take k).getLast?.getD p = t[k - 1]'(by omega) := by
  rw [List.getLast?_eq_getElem?, List.length_take, Nat.min_eq_left h, List.getElem?_take, if_pos (by omega), List.getElem?_eq_getElem (by omega)]
  rfl
/-- One byte more. -/
theorem sqz_take {t : Str} {k : Nat} (h : k < t.length) (hh : t.head? ≠ some 32) : sqz 0 (t.take (k + 1)) = sqz 0 (t.take k) ++ (if t[k] = 32 ∧ (∀ (h0 : 0 < k), t[k - 1] = 32) then [] else [t[k]]) := by
  rw [take_s h, sqz_snoc]
  congr 1
  by_cases h0 : 0 < k
  · rw [getLast_take (by omega) h0]
    by_cases h1 : t[k] = 32 ∧ t[k - 1] = 32
    · rw [if_pos h1, if_pos ⟨h1.1, fun _ => h1.2⟩]
    · rw [if_neg h1, if_neg fun e => h1 ⟨e.1, e.2 h0⟩]
  · obtain rfl : k = 0 := by omega
    have h2 : t[0] ≠ 32 := by
      intro e
      apply hh
      cases t with
      | nil => simp at h
      | cons x t => simpa using e
    rw [if_neg (fun e => h2 e.1), if_neg (fun e => h2 e.1)]

theorem sqz_take1 {t : Str} {k : Nat} (h : k < t.length) (hh : t.head? ≠ some 32) (e : t[k] ≠ 32) : sqz 0 (t.take (k + 1)) = sqz 0 (t.take k) ++ [t[k]] := by
  rw [sqz_take h hh, if_neg fun q => e q.1]
theorem sqz_take2 {t : Str} {k : Nat} (h : k < t.length) (hh : t.head? ≠ some 32) (h0 : 0 < k) (e : t[k - 1] ≠ 32) : sqz 0 (t.take (k + 1)) = sqz 0 (t.take k) ++ [t[k]] := by
  rw [sqz_take h hh, if_neg fun q => e (q.2 h0)]
theorem sqz_take3 {t : Str} {k : Nat} (h : k < t.length) (hh : t.head? ≠ some 32) (e : t[k] = 32) (h0 : 0 < k) (e2 : t[k - 1] = 32) : sqz 0 (t.take (k + 1)) = sqz 0 (t.take k) := by
  rw [sqz_take h hh, if_pos ⟨e, fun _ => e2⟩, List.append_nil]

theorem ffold_fn (s : Str) (hs : List.length s < 1000000) : Ctr Tryz.prog 190 [.d (.str s)] (.d (.str (foldS s))) := by
  refine fn_of_vwp (fun _ => false) (by kernel_rfl) Tryz.func190 (by kernel_rfl) rfl rfl (Nat.le_of_ble_eq_true rfl) (by kernel_rfl) rfl rfl ?_
  have ht := trimB_len s
  have hl : List.length (lower (trimB s)) < 1000000 := by rw [lower_len]; omega
  have hh : (lower (trimB s)).head? ≠ some 32 := fun h => low_head h
  have hf : foldS s = sqz 0 (lower (trimB s)) := rfl
  have c2 := foldLower_fn (trimB s) (by omega)
  simp -implicitDefEqProofs
  refine callK (trim_fn s hs) ?_
  simp -implicitDefEqProofs
  refine callK c2 ?_
  clear c2
  rw [hf]
  generalize lower (trimB s) = t at *
  simp -implicitDefEqProofs
  refine loopN t.length (fun k τ => τ 3 = .d (.str t) ∧ τ 10 = .d (.int .i64 t.length) ∧ τ 11 = .d (.int .i64 k) ∧ τ 4 = .own false 5 (bytesD (sqz 0 (t.take k)))) ⟨by simp, by simp, by simp, by simp [sqz, bytesD]⟩ ?_
  rintro k τ hk ⟨h3, h10, h11, h4⟩
  by_cases hlt : k < List.length t
  · have hq := sqz_len (t.take k) 0
    rw [List.length_take] at hq
    by_cases e1 : t[k] = 32
    · have e1' : (t[k].toNat : Int) = 32 := (u8_int _ 32 (by omega)).2 e1
      have h0 : 0 < k := by
        rcases Nat.eq_zero_or_pos k with rfl | h
        · exfalso
          apply hh
          cases t with
          | nil => simp at hlt
          | cons x t => simpa using e1
        · exact h
      have i1 : (0 : Int) ≤ (k : Int) - 1 := by omega
      have j1 : ((k : Int) - 1).toNat = k - 1 := by omega
      have l1 : k - 1 < List.length t := by omega
      by_cases e2 : t[k - 1] = 32
      · have e2' : (t[k - 1].toNat : Int) = 32 := (u8_int _ 32 (by omega)).2 e2
        have hs3 := sqz_take3 hlt hh e1 h0 e2
        simp -implicitDefEqProofs [h3, h10, h11, h4, hlt, e1', e2', i1, j1, l1]
        repeat refine And.intro (by omega) ?_
        refine again hlt ⟨by simp [h3], by simp [h10], by simp, by simp [hs3, h4]⟩
      · have e2' : ¬ (t[k - 1].toNat : Int) = 32 := fun e => e2 ((u8_int _ 32 (by omega)).1 e)
        have hs3 := sqz_take2 hlt hh h0 e2
        simp -implicitDefEqProofs [h3, h10, h11, h4, hlt, e1', e2', i1, j1, l1]
        repeat refine And.intro (by first | omega | (simp [bytesD]; omega)) ?_
        refine again hlt ⟨by simp [h3], by simp [h10], by simp, by simp [hs3, bytesD, e1']⟩
    · have e1' : ¬ (t[k].toNat : Int) = 32 := fun e => e1 ((u8_int _ 32 (by omega)).1 e)
      have hs3 := sqz_take1 hlt hh e1
      simp -implicitDefEqProofs [h3, h10, h11, h4, hlt, e1']
      repeat refine And.intro (by first | omega | (simp [bytesD]; omega)) ?_
      refine again hlt ⟨by simp [h3], by simp [h10], by simp, by simp [hs3, bytesD]⟩
  · rw [List.take_of_length_le (by omega)] at h4
    simp -implicitDefEqProofs [h3, h10, h11, h4, hlt]

end Go.Proofs.Tz

/- Names: values, in both. -/
set_option maxRecDepth 100000
set_option maxHeartbeats 4000000
set_option linter.unusedVariables false
set_option linter.unusedSimpArgs false
namespace Go.Proofs.Tz
open Go.Vw Go.RowKit Go.Proofs

theorem valueU_esc {s : Str} {k : Nat} (h : k + 1 < s.length) (e : s[k] = 92) : valueU (s.drop k) = if specB s[k + 1] = true then (valueU (s.drop (k + 2))).map (s[k + 1] :: ·) else none := by
  rw [drop_c (show k < s.length by omega), drop_c h, valueU, if_pos e]
theorem valueU_end {s : Str} {k : Nat} (h : k < s.length) (h2 : ¬ k + 1 < s.length) (e : s[k] = 92) : valueU (s.drop k) = none := by
  rw [drop_c h, List.drop_eq_nil_of_le (by omega), valueU, if_pos e]
theorem valueU_one {s : Str} {k : Nat} (h : k < s.length) (e : s[k] ≠ 92) : valueU (s.drop k) = if specB s[k] = true then none else (valueU (s.drop (k + 1))).map (s[k] :: ·) := by
  rw [drop_c h]
  by_cases h2 : k + 1 < s.length
  · rw [drop_c h2, valueU, if_neg e]
  · rw [List.drop_eq_nil_of_le (by omega)]
    simp only [valueU, if_neg e]
    rfl
theorem valueU_len : ∀ (n : Nat) (s : Str), s.length ≤ n → ∀ v, valueU s = some v → v.length ≤ s.length
  | _, [], _, v, h => by simp only [valueU, Option.some.injEq] at h; subst h; simp
  | 0, x :: s, hn, _, _ => by simp at hn
  | n + 1, [x], _, v, h => by
    simp only [valueU] at h
    split at h
    · cases h
    · split at h
      · cases h
      · simp only [Option.some.injEq] at h; subst h; simp
  | n + 1, x :: y :: r, hn, v, h => by
    simp only [List.length_cons] at hn
    simp only [valueU] at h
    split at h
    · split at h
      · obtain ⟨w, hw, rfl⟩ := Option.map_eq_some_iff.1 h
        have := valueU_len n r (by omega) w hw
        simp only [List.length_cons]; omega
      · cases h
    · split at h
      · cases h
      · obtain ⟨w, hw, rfl⟩ := Option.map_eq_some_iff.1 h
        have := valueU_len n (y :: r) (by simp only [List.length_cons]; omega) w hw
        simp only [List.length_cons] at this ⊢; omega
/-- A value, or none, as two results. -/
def optT (o : Option Str) : Str × Bool := match o with
  | some v => (v, true)
  | none => ([], false)

/-- What was read so far. -/
def VaI (f : Str → Option Str) (s : Str) (k : Nat) (out : Str) : Prop := f s = (f (s.drop k)).map (out ++ ·) ∧ out.length ≤ k
theorem VaI.zero {f : Str → Option Str} (s : Str) : VaI f s 0 [] := ⟨by simp, by simp⟩
theorem VaI.one {f : Str → Option Str} {s : Str} {k j : Nat} {out : Str} {x : UInt8} (h : VaI f s k out) (hj : k < j) (e : f (s.drop k) = (f (s.drop j)).map (x :: ·)) : VaI f s j (out ++ [x]) := by
  refine ⟨?_, ?_⟩
  · rw [h.1, e]; cases f (s.drop j) <;> simp
  · have := h.2; simp; omega
theorem VaI.none {f : Str → Option Str} {s : Str} {k : Nat} {out : Str} (h : VaI f s k out) (e : f (s.drop k) = Option.none) : f s = Option.none := by rw [h.1, e]; rfl
theorem VaI.all {f : Str → Option Str} {s : Str} {k : Nat} {out : Str} (h : VaI f s k out) (hk : ¬ k < s.length) (e : f [] = some []) : f s = some out := by
  rw [h.1, List.drop_eq_nil_of_le (by omega), e]; simp

theorem nvalue_fn (s : Str) (hs : List.length s < 1000000) : Ctr Tryz.prog 223 [.d (.str s)] (.tup [.d (.str (optT (valueU s)).1), .d (.bool (optT (valueU s)).2)]) := by
  refine fn_of_vwpN (rv := .tmp 2) (rs := [.tmp 3]) (r := .d (.str (optT (valueU s)).1)) (ys := [.d (.bool (optT (valueU s)).2)]) (fun i => i == 1000004 || i == 5000038 || i == 5000039) (by kernel_rfl) Tryz.func223 (by kernel_rfl) rfl rfl (by simp) (Nat.le_of_ble_eq_true rfl) (by kernel_rfl) rfl rfl ?_
  simp -implicitDefEqProofs
  refine newK2 1000000 1000001 5 (by simp) (by kernel_rfl) (by simp) (by simp) (fun b => ?_)
  simp -implicitDefEqProofs
  refine loopN (List.length s) (fun k τ => τ 0 = .d (.str s) ∧ τ 5 = .d (.int .i64 k) ∧ τ 4 = .d (.raw (va b)) ∧ ∃ out, VaI valueU s k out ∧ BldAt τ b out) ?_ ?_
  · exact ⟨by simp, by simp, by simp, [], .zero s, .nilp, .slice none 0 0, .inl rfl, by simp [zTX61], by simp [bytesD]⟩
  rintro k τ hk ⟨h0, h5, h4, out, hI, p, hd, hp, hb, hh⟩
  have hol := hI.2
  by_cases hlt : k < List.length s
  · by_cases h2 : s[k] = 92
    · have h2' : (s[k].toNat : Int) = 92 := (u8_int s[k] 92 (by omega)).2 h2
      by_cases h3 : k + 1 < List.length s
      · have e := valueU_esc h3 h2
        have ne : ¬ (k : Int) + 1 = (List.length s : Int) := by omega
        have i1 : (0 : Int) ≤ (k : Int) + 1 := by omega
        have j1 : ((k : Int) + 1).toNat = k + 1 := by omega
        by_cases h6 : specB s[k + 1] = true
        · rw [if_pos h6] at e
          simp -implicitDefEqProofs [h0, h5, h4, hlt, h2', ne, h3, i1, j1]
          repeat refine And.intro (by omega) ?_
          refine callK (nspecial_fn s[k + 1]) ?_
          simp -implicitDefEqProofs [h0, h5, h4, hlt, h2', ne, h3, i1, j1, h6]
          refine givB [1000000, 1000001] 1000000 (writeByte_fn (s := out) (hd := hd) hp s[k + 1] (by omega)) (by simp [hb, hh]) rfl (by simp) ?_
          rintro r hs' ⟨hd1, rfl⟩
          simp -implicitDefEqProofs [h0, h5, h4, hlt, takeH, putH]
          repeat refine And.intro (by omega) ?_
          exact again' (k' := k + 2) (by omega) (by omega) ⟨by simp [h0], by simp; omega, by simp [h4], out ++ [s[k + 1]], hI.one (by omega) e, .raw (va b), hd1, .inr rfl, by simp, by simp⟩
        · rw [if_neg h6] at e
          have hn := hI.none e
          simp -implicitDefEqProofs [h0, h5, h4, hlt, h2', ne, h3, i1, j1]
          repeat refine And.intro (by omega) ?_
          refine callK (nspecial_fn s[k + 1]) ?_
          simp -implicitDefEqProofs [h0, h5, h4, hlt, h2', ne, h3, i1, j1, h6, optT, hn]
      · have hn := hI.none (valueU_end hlt h3 h2)
        have ne : (k : Int) + 1 = (List.length s : Int) := by omega
        simp -implicitDefEqProofs [h0, h5, h4, hlt, h2', ne, optT, hn]
        try omega
    · have h2' : ¬ (s[k].toNat : Int) = 92 := fun e => h2 ((u8_int s[k] 92 (by omega)).1 e)
      have e := valueU_one hlt h2
      simp -implicitDefEqProofs [h0, h5, h4, hlt, h2']
      refine callK (nspecial_fn s[k]) ?_
      by_cases h6 : specB s[k] = true
      · rw [if_pos h6] at e
        have hn := hI.none e
        simp -implicitDefEqProofs [h0, h5, h4, hlt, h2', h6, optT, hn]
      · rw [if_neg h6] at e
        simp -implicitDefEqProofs [h0, h5, h4, hlt, h2', h6]
        refine givB [1000000, 1000001] 1000000 (writeByte_fn (s := out) (hd := hd) hp s[k] (by omega)) (by simp [hb, hh]) rfl (by simp) ?_
        rintro r hs' ⟨hd1, rfl⟩
        simp -implicitDefEqProofs [h0, h5, h4, hlt, takeH, putH]
        repeat refine And.intro (by omega) ?_
        exact again hlt ⟨by simp [h0], by simp, by simp [h4], out ++ [s[k]], hI.one (by omega) e, .raw (va b), hd1, .inr rfl, by simp, by simp⟩
  · have hv := hI.all hlt rfl
    simp -implicitDefEqProofs [h0, h5, h4, hlt]
    refine givB [1000000, 1000001] 1000000 (string_fn (s := out) (hd := hd) hp) (by simp [hb, hh]) rfl (by simp) ?_
    rintro r hs' ⟨rfl, rfl⟩
    simp -implicitDefEqProofs [h0, h5, h4, hlt, takeH, putH, optT, hv]

end Go.Proofs.Tz

/- Names: components and Parse, in both. -/
set_option maxRecDepth 100000
set_option maxHeartbeats 4000000
set_option linter.unusedVariables false
set_option linter.unusedSimpArgs false
namespace Go.Proofs.Tz
open Go.Vw Go.RowKit Go.Proofs

theorem ntrimmed_fn (s : Str) (hs : List.length s < 1000000) : Ctr Tryz.prog 224 [.d (.str s)] (.d (.str (trimB s))) := by
  refine fn_of_vwp (fun _ => false) (by kernel_rfl) Tryz.func224 (by kernel_rfl) rfl rfl (Nat.le_of_ble_eq_true rfl) (by kernel_rfl) rfl rfl ?_
  simp -implicitDefEqProofs
  refine callK (trim_fn s hs) ?_
  simp -implicitDefEqProofs

theorem ncomp_fn (s : Str) (hs : List.length s < 1000000) : Ctr Tryz.prog 188 [.d (.str s)] (.tup [.d (pairD (compU s).1), .d (.int .i64 (compU s).2)]) := by
  refine fn_of_vwpN (rv := .cell 2 173) (rs := [.tmp 3]) (r := .d (pairD (compU s).1)) (ys := [.d (.int .i64 (compU s).2)]) (fun _ => false) (by kernel_rfl) Tryz.func188 (by kernel_rfl) rfl rfl (by simp) (Nat.le_of_ble_eq_true rfl) (by kernel_rfl) rfl rfl ?_
  simp -implicitDefEqProofs
  refine callK (nindex_fn s 61 hs) ?_
  by_cases hlt : nextU 61 s < s.length
  case neg =>
    have hx : indexU 61 s = -1 := by rw [indexU, if_neg hlt]
    simp -implicitDefEqProofs [hx]
    simp [compU, hlt, pairD]
  have hx : indexU 61 s = (nextU 61 s : Int) := by rw [indexU, if_pos hlt]
  unfold compU
  rw [if_pos hlt]
  have b1 : List.length (s.drop (nextU 61 s + 1)) < 1000000 := by simp; omega
  have b2 : List.length (s.take (nextU 61 s)) < 1000000 := by simp; omega
  generalize hj : nextU 61 s = j at *
  have htk : List.take (List.length s - (j + 1)) (List.drop (j + 1) s) = List.drop (j + 1) s := List.take_of_length_le (by simp)
  have i0 : ¬ (j : Int) < 0 := by omega
  have i1 : (0 : Int) ≤ (j : Int) + 1 := by omega
  have j1 : ((j : Int) + 1).toNat = j + 1 := by omega
  have c1 := ntrimmed_fn (s.drop (j + 1)) b1
  have c2 := trim_fn (s.take j) b2
  have t1 := trimB_len (s.drop (j + 1))
  have t2 := trimB_len (s.take j)
  have c3 := nvalue_fn (trimB (s.drop (j + 1))) (by omega)
  have c4 := fname_fn (trimB (s.take j)) (by omega)
  have hvl := valueU_len _ (trimB (s.drop (j + 1))) (Nat.le_refl _)
  simp -implicitDefEqProofs [hx, i0, i1, j1, htk]
  repeat refine And.intro (by omega) ?_
  refine callK c1 ?_
  simp -implicitDefEqProofs
  refine callK c3 ?_
  generalize trimB (s.drop (j + 1)) = T at *
  cases hv : valueU T with
  | none =>
    simp -implicitDefEqProofs [optT, hv]
    repeat refine And.intro (by omega) ?_
    refine callK c2 ?_
    generalize trimB (s.take j) = K at *
    simp -implicitDefEqProofs
    simp [pairD]
  | some v =>
    have hv2 := hvl v hv
    have c5 := fclean_fn v (by omega)
    rw [cleanF_eq] at c5
    simp -implicitDefEqProofs [optT, hv]
    repeat refine And.intro (by omega) ?_
    refine callK c2 ?_
    generalize trimB (s.take j) = K at *
    simp -implicitDefEqProofs
    refine callK c4 ?_
    by_cases hn : nameB K = true
    · simp -implicitDefEqProofs [hn]
      refine callK c5 ?_
      by_cases hc : cleanB v = true
      · simp -implicitDefEqProofs [hc]
        simp [pairD]
      · simp -implicitDefEqProofs [hc]
        simp [pairD]
    · simp -implicitDefEqProofs [hn]
      simp [pairD]

theorem pieces_bound : ∀ (n : Nat) (s : Str), s.length ≤ n → (piecesU s).length ≤ s.length + 1 ∧ ∀ p ∈ piecesU s, p.length ≤ s.length := by
  intro n
  induction n with
  | zero =>
    intro s hn
    have : s = [] := List.length_eq_zero_iff.1 (by omega)
    subst this
    rw [piecesU_end (by simp)]
    simp
  | succ n ih =>
    intro s hn
    by_cases h : nextU 44 s < s.length
    · rw [piecesU_at h]
      obtain ⟨h1, h2⟩ := ih (s.drop (nextU 44 s + 1)) (by simp only [List.length_drop]; omega)
      simp only [List.length_drop] at h1 h2
      refine ⟨by simp only [List.length_cons]; omega, fun p hp => ?_⟩
      rcases List.mem_cons.1 hp with rfl | hp
      · simp only [List.length_take]; omega
      · have := h2 p hp; omega
    · rw [piecesU_end h]
      simp
theorem compsU_drop {out : List Pair} {ps : List Str} {k : Nat} (h : k < ps.length) : compsU out (ps.drop k) = if (compU ps[k]).2 = 0 then compsU (out ++ [(compU ps[k]).1]) (ps.drop (k + 1)) else ([], (compU ps[k]).2) := by
  rw [drop_c h]; rfl

theorem nparse_fn (s : Str) (hs : List.length s < 900000) : Ctr Tryz.prog 139 [.d (.str s)] (.tup [.d (pairs (parseU s).1), .d (.int .i64 (parseU s).2)]) := by
  refine fn_of_vwpN (rv := .tmp 2) (rs := [.tmp 3]) (r := .d (pairs (parseU s).1)) (ys := [.d (.int .i64 (parseU s).2)]) (fun _ => false) (by kernel_rfl) Tryz.func139 (by kernel_rfl) rfl rfl (by simp) (Nat.le_of_ble_eq_true rfl) (by kernel_rfl) rfl rfl ?_
  by_cases hnil : s = []
  · simp -implicitDefEqProofs [hnil, parseU, pairs]
  have hP : parseU s = compsU [] (piecesU s) := by rw [parseU, if_neg hnil]
  have c1 := npieces_fn s (by omega)
  obtain ⟨b1, b2⟩ := pieces_bound _ s (Nat.le_refl _)
  rw [hP]
  generalize piecesU s = ps at *
  obtain ⟨R, hR⟩ : ∃ R, compsU [] ps = R := ⟨_, rfl⟩
  rw [hR]
  simp -implicitDefEqProofs [hnil]
  refine callK c1 ?_
  simp -implicitDefEqProofs
  refine loopN ps.length (fun k τ => τ 12 = .own false 9 (ps.map .str) ∧ τ 13 = .d (.int .i64 ps.length) ∧ τ 14 = .d (.int .i64 k) ∧ ∃ out : List Pair, out.length = k ∧ τ 4 = .own false 173 (out.map pairD) ∧ compsU out (ps.drop k) = R) ?_ ?_
  · exact ⟨by simp, by simp, by simp, [], rfl, by simp, by simpa using hR⟩
  rintro k τ hk ⟨h12, h13, h14, out, ho, h4, hI⟩
  by_cases hlt : k < ps.length
  · have hlt' : (k : Int) < ps.length := by omega
    rw [compsU_drop hlt] at hI
    have hb := b2 _ (List.getElem_mem hlt)
    have c2 := ncomp_fn ps[k] (by omega)
    simp -implicitDefEqProofs [h12, h13, h14, h4, hlt, hlt']
    refine callK c2 ?_
    generalize compU ps[k] = C at *
    obtain ⟨⟨n, v⟩, e⟩ := C
    by_cases he : e = 0
    · rw [if_pos he] at hI
      simp -implicitDefEqProofs [h12, h13, h14, h4, hlt, hlt', he, pairD]
      repeat refine And.intro (by omega) ?_
      exact again hlt ⟨by simp [h12], by simp [h13], by simp, out ++ [(n, v)], by simp [ho], by simp [pairD], hI⟩
    · rw [if_neg he] at hI
      subst hI
      simp -implicitDefEqProofs [h12, h13, h14, h4, hlt, hlt', he, pairD]
      simp [pairs]
  · have hlt' : ¬ (k : Int) < ps.length := by omega
    rw [List.drop_eq_nil_of_le (by omega), compsU] at hI
    by_cases h8 : 8 < out.length
    · rw [if_pos h8] at hI
      subst hI
      have h8' : (8 : Int) < out.length := by omega
      simp -implicitDefEqProofs [h12, h13, h14, h4, hlt, hlt', h8', pairs]
      try omega
    · rw [if_neg h8] at hI
      subst hI
      have h8' : ¬ (8 : Int) < out.length := by omega
      simp -implicitDefEqProofs [h12, h13, h14, h4, hlt, hlt', h8', pairs]
      try omega

end Go.Proofs.Tz

/- Names: check and Format, in both. -/
set_option maxRecDepth 100000
set_option maxHeartbeats 4000000
set_option linter.unusedVariables false
set_option linter.unusedSimpArgs false
namespace Go.Proofs.Tz
open Go.Vw Go.RowKit Go.Proofs

def FitN (l : List Pair) : Prop := l.length < 1000000 ∧ ∀ p ∈ l, List.length p.1 < 1000000 ∧ List.length p.2 < 1000000
theorem pairsE_drop {l : List Pair} {k : Nat} (h : k < l.length) : pairsE (l.drop k) = if pairE l[k] = 0 then pairsE (l.drop (k + 1)) else pairE l[k] := by
  rw [drop_c h]; rfl
theorem pairE_ok {p : Pair} : pairE p = 0 ↔ nameB p.1 = true ∧ cleanB p.2 = true := by
  unfold pairE
  by_cases h1 : nameB p.1 = true <;> by_cases h2 : cleanB p.2 = true <;> simp [h1, h2]
theorem nameB_len {s : Str} (h : nameB s = true) : s.length ≤ 64 := by
  simp only [nameB, Bool.and_eq_true, decide_eq_true_eq] at h; exact h.1.1.2
theorem cleanB_len {s : Str} (h : cleanB s = true) : s.length ≤ 256 := by
  simp only [cleanB, Bool.and_eq_true, decide_eq_true_eq] at h; exact h.1.1.1.2

theorem ncheck_fn (l : List Pair) (hl : FitN l) : Ctr Tryz.prog 189 [.d (pairs l)] (.d (.int .i64 (checkU l))) := by
  refine fn_of_vwp (fun _ => false) (by kernel_rfl) Tryz.func189 (by kernel_rfl) rfl rfl (Nat.le_of_ble_eq_true rfl) (by kernel_rfl) rfl rfl ?_
  obtain ⟨R, hR⟩ : ∃ R, checkU l = R := ⟨_, rfl⟩
  rw [hR]
  have hl1 := hl.1
  simp -implicitDefEqProofs [pairs]
  refine loopN l.length (fun k τ => τ 0 = .d (.sl (l.map pairD)) ∧ τ 5 = .d (.sl (l.map pairD)) ∧ τ 6 = .d (.int .i64 l.length) ∧ τ 7 = .d (.int .i64 k) ∧ pairsE l = pairsE (l.drop k)) ⟨by simp, by simp, by simp, by simp, by simp⟩ ?_
  rintro k τ hk ⟨h0, h5, h6, h7, hI⟩
  by_cases hlt : k < l.length
  · have hlt' : (k : Int) < l.length := by omega
    obtain ⟨f1, f2⟩ := hl.2 l[k] (List.getElem_mem hlt)
    rw [pairsE_drop hlt] at hI
    generalize hp : l[k] = p at *
    obtain ⟨n, v⟩ := p
    have c1 := fname_fn n f1
    have c2 := fclean_fn v f2
    rw [cleanF_eq] at c2
    simp -implicitDefEqProofs [h0, h5, h6, h7, hlt, hlt', hp, pairD]
    refine callK c1 ?_
    by_cases hn : nameB n = true
    · simp -implicitDefEqProofs [h0, h5, h6, h7, hn]
      refine callK c2 ?_
      by_cases hc : cleanB v = true
      · have e : pairE (n, v) = 0 := pairE_ok.2 ⟨hn, hc⟩
        rw [if_pos e] at hI
        simp -implicitDefEqProofs [h0, h5, h6, h7, hc]
        repeat refine And.intro (by omega) ?_
        exact again hlt ⟨by simp [h0], by simp [h5], by simp [h6], by simp, hI⟩
      · have e : pairE (n, v) = 8 := by simp [pairE, hn, hc]
        rw [e, if_neg (by omega)] at hI
        have hq : R = 8 := by rw [← hR, checkU, hI, if_neg (by omega)]
        simp -implicitDefEqProofs [h0, h5, h6, h7, hc, hq]
    · have e : pairE (n, v) = 5 := by simp [pairE, hn]
      rw [e, if_neg (by omega)] at hI
      have hq : R = 5 := by rw [← hR, checkU, hI, if_neg (by omega)]
      simp -implicitDefEqProofs [h0, h5, h6, h7, hn, hq]
  · have hlt' : ¬ (k : Int) < l.length := by omega
    rw [List.drop_eq_nil_of_le (by omega), pairsE] at hI
    rw [checkU, if_pos hI] at hR
    by_cases h8 : 8 < l.length
    · have h8' : (8 : Int) < l.length := by omega
      rw [if_pos h8] at hR
      simp -implicitDefEqProofs [h0, h5, h6, h7, hlt', h8', ← hR]
    · have h8' : ¬ (8 : Int) < l.length := by omega
      rw [if_neg h8] at hR
      simp -implicitDefEqProofs [h0, h5, h6, h7, hlt', h8', ← hR]

theorem joinB_snoc (c : UInt8) (p : Str) : ∀ (l : List Str), joinB c (l ++ [p]) = if l = [] then p else joinB c l ++ c :: p
  | [] => rfl
  | [q] => rfl
  | q :: r :: l => by
    have ih := joinB_snoc c p (r :: l)
    rw [if_neg (by simp)] at ih
    rw [if_neg (by simp)]
    have e1 : joinB c (q :: r :: l ++ [p]) = q ++ c :: joinB c (r :: l ++ [p]) := rfl
    have e2 : joinB c (q :: r :: l) = q ++ c :: joinB c (r :: l) := rfl
    rw [e1, e2, ih]
    simp
/-- The name of the first components. -/
def fmtT (l : List Pair) (k : Nat) : Str := joinB 44 ((l.take k).map fmtC)
/-- .. and of the next one, but its value. -/
def fmtP (l : List Pair) (k : Nat) (n : Str) : Str := (if k = 0 then [] else fmtT l k ++ [44]) ++ (lower n ++ [61])
theorem fmtT_zero (l : List Pair) : fmtT l 0 = [] := by simp [fmtT, joinB]
theorem fmtT_succ {l : List Pair} {k : Nat} (h : k < l.length) : fmtT l (k + 1) = fmtP l k l[k].1 ++ escV (foldS l[k].2) := by
  rw [fmtT, take_s h, List.map_append, List.map_cons, List.map_nil, joinB_snoc, fmtP, fmtT]
  by_cases hk : k = 0
  · subst hk; simp [fmtC]
  · rw [if_neg hk, if_neg]
    · simp [fmtC]
    · intro e
      have := congrArg List.length e
      simp only [List.length_map, List.length_take, List.length_nil] at this
      omega
theorem fmtT_all (l : List Pair) {k : Nat} (h : ¬ k < l.length) : fmtT l k = joinB 44 (l.map fmtC) := by
  have e : l.take k = l := List.take_of_length_le (by omega)
  rw [fmtT, e]
theorem escV_snoc (a : Str) (c : UInt8) : escV (a ++ [c]) = escV a ++ (if specB c = true then [92, c] else [c]) := by simp [escV]
theorem escV_take {s : Str} {k : Nat} (h : k < s.length) : escV (s.take (k + 1)) = escV (s.take k) ++ (if specB s[k] = true then [92, s[k]] else [s[k]]) := by rw [take_s h, escV_snoc]
theorem escV_len (s : Str) : (escV s).length ≤ 2 * s.length := by
  induction s with
  | nil => simp [escV]
  | cons c s ih =>
    have e : escV (c :: s) = (if specB c = true then [92, c] else [c]) ++ escV s := by simp [escV]
    rw [e, List.length_append, List.length_cons]
    split <;> simp <;> omega
theorem fmtT_len {l : List Pair} : ∀ {k : Nat}, k ≤ l.length → (∀ p ∈ l.take k, pairE p = 0) → (fmtT l k).length ≤ 600 * k
  | 0, _, _ => by simp [fmtT_zero]
  | k + 1, hk, h => by
    have hlt : k < l.length := by omega
    have ih := fmtT_len (l := l) (k := k) (by omega) (fun p hp => h p (by rw [take_s hlt, List.mem_append]; exact .inl hp))
    have hp := pairE_ok.1 (h l[k] (by rw [take_s hlt, List.mem_append]; exact .inr (by simp)))
    have a1 := nameB_len hp.1
    have a2 := cleanB_len hp.2
    have a3 := escV_len (foldS l[k].2)
    have a4 := foldS_len l[k].2
    rw [fmtT_succ hlt, List.length_append, fmtP, List.length_append, List.length_append, lower_len]
    split
    · simp; omega
    · simp; omega
theorem fmtP_len {l : List Pair} {k : Nat} {n : Str} (h : (fmtT l k).length ≤ 600 * k) (hn : n.length ≤ 64) : (fmtP l k n).length ≤ 600 * k + 66 := by
  rw [fmtP, List.length_append, List.length_append, lower_len]
  split
  · simp; omega
  · simp; omega

theorem nformat_fn (l : List Pair) (hl : FitN l) : Ctr Tryz.prog 140 [.d (pairs l)] (.tup [.d (.str (formatU l).1), .d (.int .i64 (formatU l).2)]) := by
  refine fn_of_vwpN (rv := .tmp 2) (rs := [.tmp 3]) (r := .d (.str (formatU l).1)) (ys := [.d (.int .i64 (formatU l).2)]) (fun i => i == 1000005 || i == 5000024 || i == 5000028 || i == 5000029 || i == 5000042 || i == 5000046 || i == 5000049) (by kernel_rfl) Tryz.func140 (by kernel_rfl) rfl rfl (by simp) (Nat.le_of_ble_eq_true rfl) (by kernel_rfl) rfl rfl ?_
  have c0 := ncheck_fn l hl
  simp only [pairs] at c0 ⊢
  simp -implicitDefEqProofs
  refine callK c0 ?_
  by_cases hc : checkU l = 0
  case neg =>
    simp -implicitDefEqProofs [hc, formatU]
  have hF : formatU l = (joinB 44 (l.map fmtC), 0) := by rw [formatU, if_pos hc]
  rw [hF]
  have hE : ∀ p ∈ l, pairE p = 0 := pairsE_zero.1 (by
    unfold checkU at hc
    split at hc
    · assumption
    · rename_i h; exact absurd hc h)
  have h8 : l.length ≤ 8 := by
    unfold checkU at hc
    split at hc
    · split at hc
      · omega
      · omega
    · rename_i h; exact absurd hc h
  simp -implicitDefEqProofs [hc]
  refine newK2 1000000 1000001 5 (by simp) (by kernel_rfl) (by simp) (by simp) (fun b => ?_)
  simp -implicitDefEqProofs
  refine loopN l.length (fun k τ => τ 15 = .d (.sl (l.map pairD)) ∧ τ 16 = .d (.int .i64 l.length) ∧ τ 17 = .d (.int .i64 k) ∧ τ 5 = .d (.raw (va b)) ∧ BldAt τ b (fmtT l k)) ?_ ?_
  · exact ⟨by simp, by simp, by simp, by simp, .nilp, .slice none 0 0, .inl rfl, by simp [zTX61], by simp [fmtT_zero, bytesD]⟩
  rintro k τ hk ⟨h15, h16, h17, h5, p, hd, hp, hb, hh⟩
  have hbl := fmtT_len (l := l) hk (fun p hp => hE p (List.mem_of_mem_take hp))
  by_cases hlt : k < l.length
  · obtain ⟨f1, f2⟩ := hl.2 l[k] (List.getElem_mem hlt)
    obtain ⟨g1, g2⟩ := pairE_ok.1 (hE l[k] (List.getElem_mem hlt))
    have hlt' : (k : Int) < l.length := by omega
    have hs := fmtT_succ hlt
    have hr : ∃ r, l[k] = r := ⟨_, rfl⟩
    obtain ⟨r, hr⟩ := hr
    rw [hr] at f1 f2 g1 g2 hs
    obtain ⟨n, v⟩ := r
    simp only at f1 f2 g1 g2 hs
    have a1 := nameB_len g1
    have a2 := cleanB_len g2
    have a4 := foldS_len v
    have c1 := foldLower_fn n f1
    have c2 := ffold_fn v f2
    have hpl := fmtP_len (n := n) hbl a1
    have hll := lower_len n
    -- the state behind the comma
    have key : ∀ (τ : St) (hd : Value) (p : D), (p = .nilp ∨ p = .raw (va b)) → True := fun _ _ _ _ => trivial
    by_cases hk0 : k = 0
    · have hP : fmtP l k n = lower n ++ [61] := by rw [fmtP, if_pos hk0]; rfl
      have z0 : ¬ (0 : Int) < (k : Int) := by omega
      have z1 : ¬ 0 < k := by omega
      have e0 : fmtT l k = [] := by rw [hk0, fmtT_zero]
      rw [e0] at hh
      simp -implicitDefEqProofs [h15, h16, h17, h5, hlt, hlt', hr, pairD, z0, z1]
      refine callK c1 ?_
      simp -implicitDefEqProofs [h15, h16, h17, h5]
      refine givB [1000000, 1000001] 1000000 (writeString_fn (s := []) (hd := hd) hp (lower n) (by simp [lower_len]; omega)) (by simp [hb, hh]) rfl (by simp) ?_
      rintro r hs' ⟨hd1, rfl⟩
      simp -implicitDefEqProofs [h15, h16, h17, h5, takeH, putH]
      refine givB [1000000, 1000001] 1000000 (writeByte_fn (b := b) (s := lower n) (hd := hd1) (.inr rfl) 61 (by omega)) (by simp) rfl (by simp) ?_
      rintro r hs' ⟨hd2, rfl⟩
      simp -implicitDefEqProofs [h15, h16, h17, h5, takeH, putH]
      refine callK c2 ?_
      generalize foldS v = w at *
      simp -implicitDefEqProofs [h15, h16, h17, h5]
      refine loopN w.length (fun i τ => τ 15 = .d (.sl (l.map pairD)) ∧ τ 16 = .d (.int .i64 l.length) ∧ τ 17 = .d (.int .i64 k) ∧ τ 5 = .d (.raw (va b)) ∧ τ 8 = .d (.str w) ∧ τ 34 = .d (.int .i64 w.length) ∧ τ 35 = .d (.int .i64 i) ∧ BldAt τ b (fmtP l k n ++ escV (w.take i))) ?_ ?_
      · exact ⟨by simp [h15], by simp [h16], by simp [h17], by simp [h5], by simp, by simp, by simp, .raw (va b), hd2, .inr rfl, by simp, by simp [hP, escV, bytesD]⟩
      clear h15 h16 h17 h5 hb hh hp hd p hd1 hd2 τ
      rintro i τ hi ⟨h15, h16, h17, h5, h8, h34, h35, p, hd, hp, hb, hh⟩
      by_cases hil : i < List.length w
      · have hil' : (i : Int) < w.length := by omega
        have hs2 := escV_take hil
        have hel := escV_len (w.take i)
        rw [List.length_take] at hel
        by_cases h6 : specB w[i] = true
        · rw [if_pos h6] at hs2
          simp -implicitDefEqProofs [h15, h16, h17, h5, h8, h34, h35, hil, hil']
          refine callK (nspecial_fn w[i]) ?_
          simp -implicitDefEqProofs [h15, h16, h17, h5, h8, h34, h35, hil, hil', h6]
          refine givB [1000000, 1000001] 1000000 (writeByte_fn (s := fmtP l k n ++ escV (w.take i)) (hd := hd) hp 92 (by simp; omega)) (by simp [hb, hh]) rfl (by simp) ?_
          rintro r hs' ⟨hd1, rfl⟩
          simp -implicitDefEqProofs [h15, h16, h17, h5, h8, h34, h35, hil, hil', takeH, putH]
          refine givB [1000000, 1000001] 1000000 (writeByte_fn (b := b) (s := fmtP l k n ++ escV (w.take i) ++ [92]) (hd := hd1) (.inr rfl) w[i] (by simp; omega)) (by simp) rfl (by simp) ?_
          rintro r hs' ⟨hd2, rfl⟩
          simp -implicitDefEqProofs [h15, h16, h17, h5, h8, h34, h35, hil, hil', takeH, putH]
          repeat refine And.intro (by omega) ?_
          exact again hil ⟨by simp [h15], by simp [h16], by simp [h17], by simp [h5], by simp [h8], by simp [h34], by simp, .raw (va b), hd2, .inr rfl, by simp, by simp [hs2]⟩
        · rw [if_neg h6] at hs2
          simp -implicitDefEqProofs [h15, h16, h17, h5, h8, h34, h35, hil, hil']
          refine callK (nspecial_fn w[i]) ?_
          simp -implicitDefEqProofs [h15, h16, h17, h5, h8, h34, h35, hil, hil', h6]
          refine givB [1000000, 1000001] 1000000 (writeByte_fn (s := fmtP l k n ++ escV (w.take i)) (hd := hd) hp w[i] (by simp; omega)) (by simp [hb, hh]) rfl (by simp) ?_
          rintro r hs' ⟨hd1, rfl⟩
          simp -implicitDefEqProofs [h15, h16, h17, h5, h8, h34, h35, hil, hil', takeH, putH]
          repeat refine And.intro (by omega) ?_
          exact again hil ⟨by simp [h15], by simp [h16], by simp [h17], by simp [h5], by simp [h8], by simp [h34], by simp, .raw (va b), hd1, .inr rfl, by simp, by simp [hs2]⟩
      · have hil' : ¬ (i : Int) < w.length := by omega
        rw [List.take_of_length_le (by omega)] at hh
        simp -implicitDefEqProofs [h15, h16, h17, h5, h8, h34, h35, hil, hil']
        repeat refine And.intro (by omega) ?_
        exact again hlt ⟨by simp [h15], by simp [h16], by simp, by simp [h5], p, hd, hp, by simp [hb], by simp [hs, hh]⟩
    · have hP : fmtP l k n = fmtT l k ++ [44] ++ (lower n ++ [61]) := by rw [fmtP, if_neg hk0]
      have z0 : (0 : Int) < (k : Int) := by omega
      have z1 : 0 < k := by omega
      have z2 : ¬ k = 0 := hk0
      simp -implicitDefEqProofs [h15, h16, h17, h5, hlt, hlt', hr, pairD, z0, z1]
      refine givB [1000000, 1000001] 1000000 (writeByte_fn (s := fmtT l k) (hd := hd) hp 44 (by omega)) (by simp [hb, hh]) rfl (by simp) ?_
      rintro r hs' ⟨hd0, rfl⟩
      simp -implicitDefEqProofs [h15, h16, h17, h5, takeH, putH]
      refine callK c1 ?_
      simp -implicitDefEqProofs [h15, h16, h17, h5]
      refine givB [1000000, 1000001] 1000000 (writeString_fn (b := b) (s := fmtT l k ++ [44]) (hd := hd0) (.inr rfl) (lower n) (by simp [lower_len]; omega)) (by simp) rfl (by simp) ?_
      rintro r hs' ⟨hd1, rfl⟩
      simp -implicitDefEqProofs [h15, h16, h17, h5, takeH, putH]
      refine givB [1000000, 1000001] 1000000 (writeByte_fn (b := b) (s := fmtT l k ++ [44] ++ lower n) (hd := hd1) (.inr rfl) 61 (by simp [lower_len]; omega)) (by simp) rfl (by simp) ?_
      rintro r hs' ⟨hd2, rfl⟩
      simp -implicitDefEqProofs [h15, h16, h17, h5, takeH, putH]
      refine callK c2 ?_
      generalize foldS v = w at *
      simp -implicitDefEqProofs [h15, h16, h17, h5]
      refine loopN w.length (fun i τ => τ 15 = .d (.sl (l.map pairD)) ∧ τ 16 = .d (.int .i64 l.length) ∧ τ 17 = .d (.int .i64 k) ∧ τ 5 = .d (.raw (va b)) ∧ τ 8 = .d (.str w) ∧ τ 34 = .d (.int .i64 w.length) ∧ τ 35 = .d (.int .i64 i) ∧ BldAt τ b (fmtP l k n ++ escV (w.take i))) ?_ ?_
      · exact ⟨by simp [h15], by simp [h16], by simp [h17], by simp [h5], by simp, by simp, by simp, .raw (va b), hd2, .inr rfl, by simp, by simp [hP, escV, bytesD]⟩
      clear h15 h16 h17 h5 hb hh hp hd p hd0 hd1 hd2 τ
      rintro i τ hi ⟨h15, h16, h17, h5, h8, h34, h35, p, hd, hp, hb, hh⟩
      by_cases hil : i < List.length w
      · have hil' : (i : Int) < w.length := by omega
        have hs2 := escV_take hil
        have hel := escV_len (w.take i)
        rw [List.length_take] at hel
        by_cases h6 : specB w[i] = true
        · rw [if_pos h6] at hs2
          simp -implicitDefEqProofs [h15, h16, h17, h5, h8, h34, h35, hil, hil']
          refine callK (nspecial_fn w[i]) ?_
          simp -implicitDefEqProofs [h15, h16, h17, h5, h8, h34, h35, hil, hil', h6]
          refine givB [1000000, 1000001] 1000000 (writeByte_fn (s := fmtP l k n ++ escV (w.take i)) (hd := hd) hp 92 (by simp; omega)) (by simp [hb, hh]) rfl (by simp) ?_
          rintro r hs' ⟨hd1, rfl⟩
          simp -implicitDefEqProofs [h15, h16, h17, h5, h8, h34, h35, hil, hil', takeH, putH]
          refine givB [1000000, 1000001] 1000000 (writeByte_fn (b := b) (s := fmtP l k n ++ escV (w.take i) ++ [92]) (hd := hd1) (.inr rfl) w[i] (by simp; omega)) (by simp) rfl (by simp) ?_
          rintro r hs' ⟨hd2, rfl⟩
          simp -implicitDefEqProofs [h15, h16, h17, h5, h8, h34, h35, hil, hil', takeH, putH]
          repeat refine And.intro (by omega) ?_
          exact again hil ⟨by simp [h15], by simp [h16], by simp [h17], by simp [h5], by simp [h8], by simp [h34], by simp, .raw (va b), hd2, .inr rfl, by simp, by simp [hs2]⟩
        · rw [if_neg h6] at hs2
          simp -implicitDefEqProofs [h15, h16, h17, h5, h8, h34, h35, hil, hil']
          refine callK (nspecial_fn w[i]) ?_
          simp -implicitDefEqProofs [h15, h16, h17, h5, h8, h34, h35, hil, hil', h6]
          refine givB [1000000, 1000001] 1000000 (writeByte_fn (s := fmtP l k n ++ escV (w.take i)) (hd := hd) hp w[i] (by simp; omega)) (by simp [hb, hh]) rfl (by simp) ?_
          rintro r hs' ⟨hd1, rfl⟩
          simp -implicitDefEqProofs [h15, h16, h17, h5, h8, h34, h35, hil, hil', takeH, putH]
          repeat refine And.intro (by omega) ?_
          exact again hil ⟨by simp [h15], by simp [h16], by simp [h17], by simp [h5], by simp [h8], by simp [h34], by simp, .raw (va b), hd1, .inr rfl, by simp, by simp [hs2]⟩
      · have hil' : ¬ (i : Int) < w.length := by omega
        rw [List.take_of_length_le (by omega)] at hh
        simp -implicitDefEqProofs [h15, h16, h17, h5, h8, h34, h35, hil, hil']
        repeat refine And.intro (by omega) ?_
        exact again hlt ⟨by simp [h15], by simp [h16], by simp, by simp [h5], p, hd, hp, by simp [hb], by simp [hs, hh]⟩
  · have hlt' : ¬ (k : Int) < l.length := by omega
    rw [fmtT_all l hlt] at hh
    simp -implicitDefEqProofs [h15, h16, h17, h5, hlt, hlt']
    refine givB [1000000, 1000001] 1000000 (string_fn (s := joinB 44 (l.map fmtC)) (hd := hd) hp) (by simp [hb, hh]) rfl (by simp) ?_
    rintro r hs' ⟨rfl, rfl⟩
    simp -implicitDefEqProofs [h15, h16, h17, h5, takeH, putH]
end Go.Proofs.Tz

/- Names: Format of the reference; normal forms, in both. -/
set_option maxRecDepth 100000
set_option maxHeartbeats 4000000
set_option linter.unusedVariables false
set_option linter.unusedSimpArgs false
namespace Go.Proofs.Tz
open Go.Vw Go.RowKit Go.Proofs

theorem bytesD_len (a : Str) : (bytesD a).length = a.length := by simp [bytesD]

/-! ### what Parse returns -/
theorem compU_fit {s : Str} {p : Pair} (h : compU s = (p, 0)) : List.length p.1 ≤ 64 ∧ List.length p.2 ≤ 256 := by
  have := compU_ok h
  exact ⟨nameB_len this.1, cleanB_len this.2⟩
theorem compsU_err : ∀ {ps : List Str} {out : List Pair}, (compsU out ps).2 ≠ 0 → (compsU out ps).1 = []
  | [], out, h => by
    simp only [compsU] at h ⊢
    split
    · rfl
    · rename_i h8; rw [if_neg h8] at h; exact absurd rfl h
  | p :: ps, out, h => by
    simp only [compsU] at h ⊢
    by_cases h0 : (compU p).2 = 0
    · rw [if_pos h0] at h ⊢; exact compsU_err h
    · rw [if_neg h0]
theorem parseU_err {s : Str} (h : (parseU s).2 ≠ 0) : (parseU s).1 = [] := by
  unfold parseU at h ⊢
  split
  · rfl
  · rename_i hs; rw [if_neg hs] at h; exact compsU_err h
theorem parseU_fit (s : Str) : (parseU s).1.length ≤ 8 ∧ ∀ p ∈ (parseU s).1, List.length p.1 ≤ 64 ∧ List.length p.2 ≤ 256 := by
  by_cases h : (parseU s).2 = 0
  · unfold parseU at h ⊢
    split
    · simp
    · rename_i hs
      rw [if_neg hs] at h
      have hc : compsU [] (piecesU s) = ((compsU [] (piecesU s)).1, 0) := by rw [← h]
      obtain ⟨qs, hr, hl, h8, hq⟩ := compsU_inv hc
      refine ⟨h8, fun p hp => ?_⟩
      rw [hr, List.nil_append] at hp
      obtain ⟨i, hi, rfl⟩ := List.getElem_of_mem hp
      exact compU_fit (hq i (by omega) hi)
  · rw [parseU_err h]; simp
theorem parseU_fitN (s : Str) : FitN (parseU s).1 := by
  obtain ⟨h1, h2⟩ := parseU_fit s
  exact ⟨by omega, fun p hp => by have := h2 p hp; omega⟩
theorem validU_eq (s : Str) : validU s = (decide ((parseU s).2 = 0) && (decide ((formatU (parseU s).1).2 = 0) && decide ((formatU (parseU s).1).1 = s))) := by
  unfold validU normU
  by_cases h1 : (parseU s).2 = 0
  · by_cases h2 : (formatU (parseU s).1).2 = 0
    · by_cases h3 : (formatU (parseU s).1).1 = s
      · have e : formatU (parseU s).1 = (s, 0) := by rw [← h2]; exact Prod.ext h3 rfl
        rw [if_pos ⟨h1, e⟩, decide_eq_true h1, decide_eq_true h2, decide_eq_true h3]; rfl
      · have e : ¬ formatU (parseU s).1 = (s, 0) := fun q => h3 (by rw [q])
        rw [if_neg fun q => e q.2, decide_eq_true h1, decide_eq_true h2, decide_eq_false h3]; rfl
    · have e : ¬ formatU (parseU s).1 = (s, 0) := fun q => h2 (by rw [q])
      rw [if_neg fun q => e q.2, decide_eq_true h1, decide_eq_false h2]; rfl
  · rw [if_neg fun q => h1 q.1, decide_eq_false h1]; rfl

theorem nnormal_fn (s : Str) (hs : List.length s < 900000) : Ctr Tryz.prog 105 [.d (.str s)] (.tup [.d (pairs (parseU s).1), .d (.bool (validU s))]) := by
  refine fn_of_vwpN (rv := .tmp 2) (rs := [.tmp 3]) (r := .d (pairs (parseU s).1)) (ys := [.d (.bool (validU s))]) (fun i => false) (by kernel_rfl) Tryz.func105 (by kernel_rfl) rfl rfl (by simp) (Nat.le_of_ble_eq_true rfl) (by kernel_rfl) rfl rfl ?_
  have c1 := nparse_fn s hs
  have c2 := nformat_fn (parseU s).1 (parseU_fitN s)
  have he := parseU_err (s := s)
  rw [validU_eq]
  obtain ⟨⟨l, e⟩, hP⟩ : ∃ r, parseU s = r := ⟨_, rfl⟩
  rw [hP] at c1 c2 he ⊢
  simp only [pairs] at *
  generalize formatU l = G at *
  obtain ⟨t, g⟩ := G
  simp -implicitDefEqProofs
  refine callK c1 ?_
  by_cases h0 : e = 0
  · simp -implicitDefEqProofs [h0]
    refine callK c2 ?_
    by_cases h1 : g = 0
    · simp -implicitDefEqProofs [h1]
    · simp -implicitDefEqProofs [h1]
  · have := he h0
    subst this
    simp -implicitDefEqProofs [h0]
theorem nvalid_fn (s : Str) (hs : List.length s < 900000) : Ctr Tryz.prog 54 [.d (.str s)] (.d (.bool (validU s))) := by
  refine fn_of_vwp (fun _ => false) (by kernel_rfl) Tryz.func54 (by kernel_rfl) rfl rfl (Nat.le_of_ble_eq_true rfl) (by kernel_rfl) rfl rfl ?_
  have c1 := nnormal_fn s hs
  simp only [pairs] at c1
  simp -implicitDefEqProofs
  refine callK c1 ?_
  simp -implicitDefEqProofs
/-! ### the reference -/
end Go.Proofs.Tz

/- Change records: Check (both), the word of a kind. -/
set_option maxRecDepth 100000
set_option maxHeartbeats 4000000
set_option linter.unusedVariables false
set_option linter.unusedSimpArgs false
namespace Go.Proofs.Tz
open Go.Vw Go.RowKit Go.Proofs

theorem chkC_fn (c : Chg) (hc : FitC c) : Ctr Tryz.prog 17 [.d (chgD c)] (.d (.int .i64 (chkC c))) := by
  refine fn_of_vwp (fun _ => false) (by kernel_rfl) Tryz.func17 (by kernel_rfl) rfl rfl (Nat.le_of_ble_eq_true rfl) (by kernel_rfl) rfl rfl ?_
  obtain ⟨f1, f2, f3, f4⟩ := hc
  obtain ⟨n, op, id, nm, at_, va⟩ := c
  simp only at f1 f2 f3 f4
  have c1 := cvalid_fn n
  have c2 := csnparse_fn id (by omega)
  have c3 := nvalid_fn nm (by omega)
  have c4 := fname_fn at_ (by omega)
  have c5 := foldLower_fn at_ (by omega)
  have c6 := fclean_fn va (by omega)
  rw [cleanF_eq] at c6
  
  obtain ⟨R, hR⟩ : ∃ R, chkC (n, op, id, nm, at_, va) = R := ⟨_, rfl⟩
  rw [hR]
  unfold chkC at hR
  simp only at hR
  simp only [csnD, chgD] at c1 c2 
  generalize parseC id = P at *
  obtain ⟨⟨p1, p2, p3⟩, pe⟩ := P
  simp only at c2 hR
  by_cases hv : validC n = true
  case neg =>
    have hv' : validC n = false := by simpa using hv
    rw [hv'] at c1
    have hR2 : 2 = R := by rw [← hR]; simp [hv']
    rw [← hR2]
    simp -implicitDefEqProofs [chgD, csnD]
    refine callK c1 ?_
    simp -implicitDefEqProofs [chgD, csnD]
  rw [hv] at c1
  by_cases hlo : op < 1
  case pos =>
    have hR2 : 2 = R := by rw [← hR]; simp [hlo]
    rw [← hR2]
    simp -implicitDefEqProofs [chgD, csnD, hlo]
    refine callK c1 ?_
    simp -implicitDefEqProofs [chgD, csnD, hlo]
  by_cases hhi : 5 < op
  case pos =>
    have hR2 : 2 = R := by rw [← hR]; simp [hhi]
    rw [← hR2]
    simp -implicitDefEqProofs [chgD, csnD, hlo, hhi]
    refine callK c1 ?_
    simp -implicitDefEqProofs [chgD, csnD, hlo, hhi]
  by_cases hpe : pe = 0
  case neg =>
    have hR2 : 4 = R := by rw [← hR]; simp [hv, hlo, hhi, hpe]
    rw [← hR2]
    simp -implicitDefEqProofs [chgD, csnD, hlo, hhi, hpe]
    refine callK c1 ?_
    simp -implicitDefEqProofs [chgD, csnD, hlo, hhi, hpe]
    refine callK c2 ?_
    simp -implicitDefEqProofs [chgD, csnD, hlo, hhi, hpe]
  subst hpe
  have : op = 1 ∨ op = 2 ∨ op = 3 ∨ op = 4 ∨ op = 5 := by omega
  clear hlo hhi
  rcases this with rfl | rfl | rfl | rfl | rfl
  case inl =>
    by_cases e2 : at_ = []
    case neg =>
      have hR2 : 4 = R := by rw [← hR]; simp [hv, namedK, valuedK, unusedB, badName, e2]
      rw [← hR2]
      simp -implicitDefEqProofs [chgD, csnD, e2]
      refine callK c1 ?_
      simp -implicitDefEqProofs [chgD, csnD, e2]
      refine callK c2 ?_
      simp -implicitDefEqProofs [chgD, csnD, e2]
    by_cases e3 : va = []
    case neg =>
      have hR2 : 4 = R := by rw [← hR]; simp [hv, namedK, valuedK, unusedB, badName, e2, e3]
      rw [← hR2]
      simp -implicitDefEqProofs [chgD, csnD, e2, e3]
      refine callK c1 ?_
      simp -implicitDefEqProofs [chgD, csnD, e2, e3]
      refine callK c2 ?_
      simp -implicitDefEqProofs [chgD, csnD, e2, e3]
    by_cases e1 : nm = []
    case pos =>
      have hR2 : 5 = R := by rw [← hR]; simp [hv, namedK, valuedK, unusedB, badName, e1, e2, e3]
      rw [← hR2]
      simp -implicitDefEqProofs [chgD, csnD, e1, e2, e3]
      refine callK c1 ?_
      simp -implicitDefEqProofs [chgD, csnD, e1, e2, e3]
      refine callK c2 ?_
      simp -implicitDefEqProofs [chgD, csnD, e1, e2, e3]
    by_cases e4 : validU nm = true
    case neg =>
      have e4' : validU nm = false := by simpa using e4
      rw [e4'] at c3
      have hR2 : 5 = R := by rw [← hR]; simp [hv, namedK, valuedK, unusedB, badName, e1, e2, e3, e4']
      rw [← hR2]
      simp -implicitDefEqProofs [chgD, csnD, e1, e2, e3]
      refine callK c1 ?_
      simp -implicitDefEqProofs [chgD, csnD, e1, e2, e3]
      refine callK c2 ?_
      simp -implicitDefEqProofs [chgD, csnD, e1, e2, e3]
      refine callP c3 ?_
      simp -implicitDefEqProofs [chgD, csnD, e1, e2, e3]
    rw [e4] at c3
    have hR2 : 0 = R := by rw [← hR]; simp [hv, namedK, valuedK, unusedB, badName, e1, e2, e3, e4]
    rw [← hR2]
    simp -implicitDefEqProofs [chgD, csnD, e1, e2, e3]
    refine callK c1 ?_
    simp -implicitDefEqProofs [chgD, csnD, e1, e2, e3]
    refine callK c2 ?_
    simp -implicitDefEqProofs [chgD, csnD, e1, e2, e3]
    refine callP c3 ?_
    simp -implicitDefEqProofs [chgD, csnD, e1, e2, e3]
  case inr.inl =>
    by_cases e1 : nm = []
    case neg =>
      have hR2 : 4 = R := by rw [← hR]; simp [hv, namedK, valuedK, unusedB, badName, e1]
      rw [← hR2]
      simp -implicitDefEqProofs [chgD, csnD, e1]
      refine callK c1 ?_
      simp -implicitDefEqProofs [chgD, csnD, e1]
      refine callK c2 ?_
      simp -implicitDefEqProofs [chgD, csnD, e1]
    by_cases e2 : at_ = []
    case neg =>
      have hR2 : 4 = R := by rw [← hR]; simp [hv, namedK, valuedK, unusedB, badName, e1, e2]
      rw [← hR2]
      simp -implicitDefEqProofs [chgD, csnD, e1, e2]
      refine callK c1 ?_
      simp -implicitDefEqProofs [chgD, csnD, e1, e2]
      refine callK c2 ?_
      simp -implicitDefEqProofs [chgD, csnD, e1, e2]
    by_cases e3 : va = []
    case neg =>
      have hR2 : 4 = R := by rw [← hR]; simp [hv, namedK, valuedK, unusedB, badName, e1, e2, e3]
      rw [← hR2]
      simp -implicitDefEqProofs [chgD, csnD, e1, e2, e3]
      refine callK c1 ?_
      simp -implicitDefEqProofs [chgD, csnD, e1, e2, e3]
      refine callK c2 ?_
      simp -implicitDefEqProofs [chgD, csnD, e1, e2, e3]
    have hR2 : 0 = R := by rw [← hR]; simp [hv, namedK, valuedK, unusedB, badName, e1, e2, e3]
    rw [← hR2]
    simp -implicitDefEqProofs [chgD, csnD, e1, e2, e3]
    refine callK c1 ?_
    simp -implicitDefEqProofs [chgD, csnD, e1, e2, e3]
    refine callK c2 ?_
    simp -implicitDefEqProofs [chgD, csnD, e1, e2, e3]
  case inr.inr.inl =>
    by_cases e2 : at_ = []
    case neg =>
      have hR2 : 4 = R := by rw [← hR]; simp [hv, namedK, valuedK, unusedB, badName, e2]
      rw [← hR2]
      simp -implicitDefEqProofs [chgD, csnD, e2]
      refine callK c1 ?_
      simp -implicitDefEqProofs [chgD, csnD, e2]
      refine callK c2 ?_
      simp -implicitDefEqProofs [chgD, csnD, e2]
    by_cases e3 : va = []
    case neg =>
      have hR2 : 4 = R := by rw [← hR]; simp [hv, namedK, valuedK, unusedB, badName, e2, e3]
      rw [← hR2]
      simp -implicitDefEqProofs [chgD, csnD, e2, e3]
      refine callK c1 ?_
      simp -implicitDefEqProofs [chgD, csnD, e2, e3]
      refine callK c2 ?_
      simp -implicitDefEqProofs [chgD, csnD, e2, e3]
    by_cases e1 : nm = []
    case pos =>
      have hR2 : 5 = R := by rw [← hR]; simp [hv, namedK, valuedK, unusedB, badName, e1, e2, e3]
      rw [← hR2]
      simp -implicitDefEqProofs [chgD, csnD, e1, e2, e3]
      refine callK c1 ?_
      simp -implicitDefEqProofs [chgD, csnD, e1, e2, e3]
      refine callK c2 ?_
      simp -implicitDefEqProofs [chgD, csnD, e1, e2, e3]
    by_cases e4 : validU nm = true
    case neg =>
      have e4' : validU nm = false := by simpa using e4
      rw [e4'] at c3
      have hR2 : 5 = R := by rw [← hR]; simp [hv, namedK, valuedK, unusedB, badName, e1, e2, e3, e4']
      rw [← hR2]
      simp -implicitDefEqProofs [chgD, csnD, e1, e2, e3]
      refine callK c1 ?_
      simp -implicitDefEqProofs [chgD, csnD, e1, e2, e3]
      refine callK c2 ?_
      simp -implicitDefEqProofs [chgD, csnD, e1, e2, e3]
      refine callP c3 ?_
      simp -implicitDefEqProofs [chgD, csnD, e1, e2, e3]
    rw [e4] at c3
    have hR2 : 0 = R := by rw [← hR]; simp [hv, namedK, valuedK, unusedB, badName, e1, e2, e3, e4]
    rw [← hR2]
    simp -implicitDefEqProofs [chgD, csnD, e1, e2, e3]
    refine callK c1 ?_
    simp -implicitDefEqProofs [chgD, csnD, e1, e2, e3]
    refine callK c2 ?_
    simp -implicitDefEqProofs [chgD, csnD, e1, e2, e3]
    refine callP c3 ?_
    simp -implicitDefEqProofs [chgD, csnD, e1, e2, e3]
  case inr.inr.inr.inl =>
    by_cases e1 : nm = []
    case neg =>
      have hR2 : 4 = R := by rw [← hR]; simp [hv, namedK, valuedK, unusedB, badName, e1]
      rw [← hR2]
      simp -implicitDefEqProofs [chgD, csnD, e1]
      refine callK c1 ?_
      simp -implicitDefEqProofs [chgD, csnD, e1]
      refine callK c2 ?_
      simp -implicitDefEqProofs [chgD, csnD, e1]
    by_cases e4 : nameB at_ = true
    case neg =>
      have e4' : nameB at_ = false := by simpa using e4
      rw [e4'] at c4
      have hR2 : 5 = R := by rw [← hR]; simp [hv, namedK, valuedK, unusedB, badName, e1, e4']
      rw [← hR2]
      simp -implicitDefEqProofs [chgD, csnD, e1]
      refine callK c1 ?_
      simp -implicitDefEqProofs [chgD, csnD, e1]
      refine callK c2 ?_
      simp -implicitDefEqProofs [chgD, csnD, e1]
      refine callP c4 ?_
      simp -implicitDefEqProofs [chgD, csnD, e1]
    rw [e4] at c4
    generalize hla : lower at_ = la at *
    by_cases e5 : la = at_
    case neg =>
      have hR2 : 5 = R := by rw [← hR]; simp [hv, namedK, valuedK, unusedB, badName, e1, e4, hla, e5]
      rw [← hR2]
      simp -implicitDefEqProofs [chgD, csnD, e1, e5]
      refine callK c1 ?_
      simp -implicitDefEqProofs [chgD, csnD, e1, e5]
      refine callK c2 ?_
      simp -implicitDefEqProofs [chgD, csnD, e1, e5]
      refine callP c4 ?_
      simp -implicitDefEqProofs [chgD, csnD, e1, e5]
      refine callP c5 ?_
      simp -implicitDefEqProofs [chgD, csnD, e1, e5]
    by_cases e6 : cleanB va = true
    case neg =>
      have e6' : cleanB va = false := by simpa using e6
      rw [e6'] at c6
      have hR2 : 8 = R := by rw [← hR]; simp [hv, namedK, valuedK, unusedB, badName, e1, e4, hla, e5, e6']
      rw [← hR2]
      simp -implicitDefEqProofs [chgD, csnD, e1, e5]
      refine callK c1 ?_
      simp -implicitDefEqProofs [chgD, csnD, e1, e5]
      refine callK c2 ?_
      simp -implicitDefEqProofs [chgD, csnD, e1, e5]
      refine callP c4 ?_
      simp -implicitDefEqProofs [chgD, csnD, e1, e5]
      refine callP c5 ?_
      simp -implicitDefEqProofs [chgD, csnD, e1, e5]
      refine callK c6 ?_
      simp -implicitDefEqProofs [chgD, csnD, e1, e5]
    rw [e6] at c6
    have hR2 : 0 = R := by rw [← hR]; simp [hv, namedK, valuedK, unusedB, badName, e1, e4, hla, e5, e6]
    rw [← hR2]
    simp -implicitDefEqProofs [chgD, csnD, e1, e5]
    refine callK c1 ?_
    simp -implicitDefEqProofs [chgD, csnD, e1, e5]
    refine callK c2 ?_
    simp -implicitDefEqProofs [chgD, csnD, e1, e5]
    refine callP c4 ?_
    simp -implicitDefEqProofs [chgD, csnD, e1, e5]
    refine callP c5 ?_
    simp -implicitDefEqProofs [chgD, csnD, e1, e5]
    refine callK c6 ?_
    simp -implicitDefEqProofs [chgD, csnD, e1, e5]
  case inr.inr.inr.inr =>
    by_cases e1 : nm = []
    case neg =>
      have hR2 : 4 = R := by rw [← hR]; simp [hv, namedK, valuedK, unusedB, badName, e1]
      rw [← hR2]
      simp -implicitDefEqProofs [chgD, csnD, e1]
      refine callK c1 ?_
      simp -implicitDefEqProofs [chgD, csnD, e1]
      refine callK c2 ?_
      simp -implicitDefEqProofs [chgD, csnD, e1]
    by_cases e4 : nameB at_ = true
    case neg =>
      have e4' : nameB at_ = false := by simpa using e4
      rw [e4'] at c4
      have hR2 : 5 = R := by rw [← hR]; simp [hv, namedK, valuedK, unusedB, badName, e1, e4']
      rw [← hR2]
      simp -implicitDefEqProofs [chgD, csnD, e1]
      refine callK c1 ?_
      simp -implicitDefEqProofs [chgD, csnD, e1]
      refine callK c2 ?_
      simp -implicitDefEqProofs [chgD, csnD, e1]
      refine callP c4 ?_
      simp -implicitDefEqProofs [chgD, csnD, e1]
    rw [e4] at c4
    generalize hla : lower at_ = la at *
    by_cases e5 : la = at_
    case neg =>
      have hR2 : 5 = R := by rw [← hR]; simp [hv, namedK, valuedK, unusedB, badName, e1, e4, hla, e5]
      rw [← hR2]
      simp -implicitDefEqProofs [chgD, csnD, e1, e5]
      refine callK c1 ?_
      simp -implicitDefEqProofs [chgD, csnD, e1, e5]
      refine callK c2 ?_
      simp -implicitDefEqProofs [chgD, csnD, e1, e5]
      refine callP c4 ?_
      simp -implicitDefEqProofs [chgD, csnD, e1, e5]
      refine callP c5 ?_
      simp -implicitDefEqProofs [chgD, csnD, e1, e5]
    by_cases e6 : cleanB va = true
    case neg =>
      have e6' : cleanB va = false := by simpa using e6
      rw [e6'] at c6
      have hR2 : 8 = R := by rw [← hR]; simp [hv, namedK, valuedK, unusedB, badName, e1, e4, hla, e5, e6']
      rw [← hR2]
      simp -implicitDefEqProofs [chgD, csnD, e1, e5]
      refine callK c1 ?_
      simp -implicitDefEqProofs [chgD, csnD, e1, e5]
      refine callK c2 ?_
      simp -implicitDefEqProofs [chgD, csnD, e1, e5]
      refine callP c4 ?_
      simp -implicitDefEqProofs [chgD, csnD, e1, e5]
      refine callP c5 ?_
      simp -implicitDefEqProofs [chgD, csnD, e1, e5]
      refine callK c6 ?_
      simp -implicitDefEqProofs [chgD, csnD, e1, e5]
    rw [e6] at c6
    have hR2 : 0 = R := by rw [← hR]; simp [hv, namedK, valuedK, unusedB, badName, e1, e4, hla, e5, e6]
    rw [← hR2]
    simp -implicitDefEqProofs [chgD, csnD, e1, e5]
    refine callK c1 ?_
    simp -implicitDefEqProofs [chgD, csnD, e1, e5]
    refine callK c2 ?_
    simp -implicitDefEqProofs [chgD, csnD, e1, e5]
    refine callP c4 ?_
    simp -implicitDefEqProofs [chgD, csnD, e1, e5]
    refine callP c5 ?_
    simp -implicitDefEqProofs [chgD, csnD, e1, e5]
    refine callK c6 ?_
    simp -implicitDefEqProofs [chgD, csnD, e1, e5]
end Go.Proofs.Tz

/- strings.Builder: grow, Grow, where nothing was written yet. -/
set_option linter.unusedVariables false
namespace Go.Proofs.Tz
open Go.Vw Go.RowKit Go.Proofs

/-- What growing comes to. -/
structure Grew (w w' : World) (b g : Nat) (cs : Array Value) : Prop where
  heap : w'.heap = ((w.setCell ⟨b, 1, none⟩ (.slice (some ⟨g, 0, none⟩) 0 cs.size)).alloc (.cells cs 5)).heap
  os : w'.os = w.os
  tape : w'.tape = w.tape
  output : w'.output = w.output
  drawn : w.drawn ≤ w'.drawn

set_option maxRecDepth 1000000 in
set_option maxHeartbeats 2000000 in
theorem gr_calls (b n : Nat) (w : World) (hbk : w.heap[b]? = some (.cells #[va b, .slice none 0 0] 102 (0, 0))) (hn : n ≤ 281474976710656) :
    Calls Tryz.prog 182 #[va b, .int .i64 n] w fun e w' => e = .returned (.tuple #[]) ∧ ∃ cs : Array Value, n ≤ cs.size ∧ (n ≤ maxLen → cs.size ≤ maxLen) ∧ Grew w w' b w.heap.size cs := by
  obtain ⟨cs, hrun, hle, hmax⟩ := Lib.run_makeNoZero (P := Tryz.prog) w.drew #[3] 100 5 Tryz.underlying100 n hn
  have hw : IntKind.i64.wrap (IntKind.i64.wrap 0 + (n : Int)) = n := by
    rw [IntKind.wrap_i64, IntKind.wrap_i64]
    omega
  have hcall : (callFunc 220 #[.int .i64 (IntKind.i64.wrap (IntKind.i64.wrap 0 + (n : Int)))]).run Tryz.prog w.drew = .ok (.value (.slice (some ⟨w.drew.heap.size, 0, none⟩) n cs.size)) (w.drew.drew.drew.alloc (.cells cs 5)) := by
    rw [hw, run_callFunc_extern Tryz.func220 (by kernel_rfl) (by kernel_rfl) (by kernel_rfl) (e := Extern.BytealgMakeNoZero.makeNoZero #[3] #[100]) (by kernel_rfl), hrun]
    rfl
  have hlt : b < w.heap.size := (Array.getElem?_eq_some_iff.1 hbk).1
  have c1 : w.drew.cell? ⟨b, 1, none⟩ = some (.slice none 0 0) := by
    have : w.drew.heap[b]? = _ := hbk
    rw [Lib.cell_of_heap this]; rfl
  have c2 : (w.alloc (.cells cs 5)).cell? ⟨b, 1, none⟩ = some (.slice none 0 0) := by
    have : (w.alloc (.cells cs 5)).heap[b]? = _ := (Lib.alloc_old w _ b hlt).trans hbk
    rw [Lib.cell_of_heap this]; rfl
  have f2 : (w.alloc (.cells cs 5)).frozen? ⟨b, 1, none⟩ = false := Lib.frozen_of_heap ((Lib.alloc_old w _ b hlt).trans hbk) 1
  have hcopy : ∀ W : World, (Builtin.copy_ #[100, 100] 3 #[.slice (some ⟨w.heap.size, 0, none⟩) 0 cs.size, .slice none 0 0]).run Tryz.prog W = .ok (goInt 0) W :=
    fun W => run_copy_none W 100 100 3 5 _ _ 0 cs.size 0 0 Tryz.underlying100 byte_info rfl
  clear hw
  have mixed : Tryz.prog.follows .mixedOrders = true := by kernel_rfl
  go_enter Tryz.func182, Tryz.ntmps182
  go_wp2
  go_region_o
  all_goals (go_wp2; go_end0; exact ⟨rfl, cs, hle, hmax, rfl, rfl, rfl, rfl, Nat.le_add_right w.drawn 3⟩)

end Go.Proofs.Tz

/- strings.Builder: Grow, where nothing was written yet. -/
set_option linter.unusedVariables false
namespace Go.Proofs.Tz
open Go.Vw Go.RowKit Go.Proofs

set_option maxRecDepth 1000000 in
set_option maxHeartbeats 2000000 in
theorem Gr_calls (b n : Nat) (w : World) (hbk : w.heap[b]? = some (.cells #[.pointer none, .slice none 0 0] 102 (0, 0))) (hn0 : 0 < n) (hn : n ≤ 281474976710656) :
    Calls Tryz.prog 134 #[va b, .int .i64 n] w fun e w' => e = .returned (.tuple #[]) ∧ ∃ cs : Array Value, n ≤ cs.size ∧ (n ≤ maxLen → cs.size ≤ maxLen) ∧ Grew (w.setCell ⟨b, 0, none⟩ (va b)) w' b w.heap.size cs := by
  have hbk1 : (w.setCell ⟨b, 0, none⟩ (va b)).heap[b]? = some (.cells #[va b, .slice none 0 0] 102 (0, 0)) := by
    simp [World.setCell, Array.getElem?_modify, hbk]
  have c1 : (w.setCell ⟨b, 0, none⟩ (va b)).cell? ⟨b, 1, none⟩ = some (.slice none 0 0) := by rw [Lib.cell_of_heap hbk1]; rfl
  have hsz : (w.setCell ⟨b, 0, none⟩ (va b)).heap.size = w.heap.size := by simp [World.setCell]
  have mixed : Tryz.prog.follows .mixedOrders = true := by kernel_rfl
  have hw : (IntKind.i64.wrap (IntKind.i64.wrap 0) : Int) = 0 := by rw [IntKind.wrap_i64]; decide
  have hneg : ¬ ((n : Int) < 0) := by omega
  have hpos : (0 : Int) < n := by omega
  have e132 : ∀ args w, (callFunc 132 args).run Tryz.prog w = .ok (.enter 132 args) w := enters_of Tryz.func132 (by kernel_rfl) rfl
  have e182 : ∀ args w, (callFunc 182 args).run Tryz.prog w = .ok (.enter 182 args) w := enters_of Tryz.func182 (by kernel_rfl) rfl
  go_enter Tryz.func134, Tryz.ntmps134
  go_wp2_with (go_at_call 132; refine (cc_fresh b w (by rw [Lib.cell_of_heap hbk]; rfl) (by simp [World.shape?, hbk]) (Lib.frozen_of_heap hbk 0)).mono ?_; rintro e w' ⟨rfl, rfl⟩)
  have c1' : (w.setCell ⟨b, 0, none⟩ (va b)).drew.cell? ⟨b, 1, none⟩ = some (.slice none 0 0) := c1
  have fin : ∀ (w' : World) (cs : Array Value), Grew (w.setCell ⟨b, 0, none⟩ (va b)).drew w' b (w.setCell ⟨b, 0, none⟩ (va b)).drew.heap.size cs → Grew (w.setCell ⟨b, 0, none⟩ (va b)) w' b w.heap.size cs := fun w' cs h => by
    have e : (w.setCell ⟨b, 0, none⟩ (va b)).drew.heap.size = w.heap.size := hsz
    rw [e] at h
    exact ⟨h.heap, h.os, h.tape, h.output, Nat.le_trans (Nat.le_succ _) h.drawn⟩
  go_region_o
  all_goals go_wp2_with (go_at_call 182; refine (gr_calls b n (w.setCell ⟨b, 0, none⟩ (va b)).drew hbk1 hn).mono ?_; rintro e w' ⟨rfl, cs, h1, h2, h3⟩)
  all_goals first
    | (go_end0; exact ⟨rfl, cs, h1, h2, fin _ _ h3⟩)
    | trace_state
end Go.Proofs.Tz

/- strings.Builder: Grow's contract; strings.Join at one byte. -/
set_option linter.unusedVariables false
set_option linter.unusedSimpArgs false
set_option maxRecDepth 100000
set_option maxHeartbeats 4000000
namespace Go.Proofs.Tz
open Go.Vw Go.RowKit Go.Proofs

theorem grow_fn {b n : Nat} (h0 : 0 < n) (hn : n ≤ 140737488355328) :
    CtrG Tryz.prog 134 [.d (.raw (va b)), .d (.int .i64 n)] (bld b .nilp (.slice none 0 0) []) (fun r hs' => r = .tup [] ∧ ∃ hd', hs' = bld b (.raw (va b)) hd' []) := by
  refine ⟨enters_of Tryz.func134 (by kernel_rfl) rfl, fun w L vals hlok hgl hv hh _ => ?_⟩
  simp only [RCs] at hv
  obtain ⟨v, us, rfl, hv1, v2, us2, rfl, hv2, rfl⟩ := hv
  obtain rfl : v = va b := RepV.raw_inv hv1
  obtain rfl : v2 = .int .i64 n := RepV.int_inv hv2
  have hb : BoxT w L (some b) 102 (.agg [.nilp, .raw (.slice none 0 0)]) (va b) := (hh (.hb (va b) 102 (.agg [.nilp, .raw (.slice none 0 0)])) (by simp)).2
  obtain ⟨pv, e1, e2, e3, e4, e5⟩ := bld_cells (.inl rfl) hb
  obtain rfl : pv = .pointer none := by
    rcases e5 with ⟨_, h⟩ | ⟨h, _⟩
    · exact h
    · cases h
  have hlt : b < w.heap.size := (Array.getElem?_eq_some_iff.1 e1).1
  refine (Gr_calls b n w e1 h0 (by omega)).mono ?_
  rintro e w' ⟨rfl, cs, h1, h2, h3⟩
  have hcm := h2 (by unfold maxLen; omega)
  have hsz0 : (w.setCell ⟨b, 0, none⟩ (va b)).heap.size = w.heap.size := by simp [World.setCell]
  have hsz1 : ((w.setCell ⟨b, 0, none⟩ (va b)).setCell ⟨b, 1, none⟩ (.slice (some ⟨w.heap.size, 0, none⟩) 0 cs.size)).heap.size = w.heap.size := by simp [World.setCell]
  have hsz : w'.heap.size = w.heap.size + 1 := by rw [h3.heap, size_alloc, hsz1]
  have hold : ∀ k, k < w.heap.size → k ≠ b → w'.heap[k]? = w.heap[k]? := fun k hk hne => by
    rw [h3.heap, Lib.alloc_old _ _ k (by rw [hsz1]; exact hk)]
    rw [Below.heap_setCell _ _ _ k hne, Below.heap_setCell _ _ _ k hne]
  have hbk : w'.heap[b]? = some (.cells #[va b, .slice (some ⟨w.heap.size, 0, none⟩) 0 cs.size] 102 (0, 0)) := by
    rw [h3.heap, Lib.alloc_old _ _ b (by rw [hsz1]; exact hlt)]
    simp [World.setCell, Array.getElem?_modify, e1]
  have hgk : w'.heap[w.heap.size]? = some (.cells cs 5 (0, 0)) := by
    rw [h3.heap]
    show (((w.setCell ⟨b, 0, none⟩ (va b)).setCell ⟨b, 1, none⟩ (.slice (some ⟨w.heap.size, 0, none⟩) 0 cs.size)).heap.push (.cells cs 5))[w.heap.size]? = _
    rw [Array.getElem?_push, if_pos hsz1.symm]
  have hfree : ∀ q, ¬ L w.heap.size q := fun q hq => by have := hlok _ q hq; omega
  have hblk1 : (bld b .nilp (.slice none 0 0) []).map hblk = [some b, none] := rfl
  refine ⟨_, L, none, .tup [], bld b (.raw (va b)) (.slice (some ⟨w.heap.size, 0, none⟩) 0 cs.size) [], rfl, ⟨h3.os, h3.tape, h3.output, by omega, fun k hk hn => hold k hk (fun e => hn (by rw [hblk1]; simp [e])), h3.drawn⟩,
    fun c q hq => by have := hlok c q hq; omega, fun _ _ _ _ => Iff.rfl, fun g hg => ?_, ?_, ⟨[], rfl, rfl⟩, fun x hx => ?_, rfl, _, rfl⟩
  · simp [hblk, Value.ownBlock] at hg
    rcases hg with rfl | rfl
    · exact ⟨by omega, .inr (by rw [hblk1]; simp)⟩
    · exact ⟨by omega, .inl (Nat.le_refl _)⟩
  · simp only [apartB, hblk, List.map_cons, List.map_nil, Value.ownBlock]
    refine ⟨by simp, ?_, ?_, trivial⟩
    · intro g hg; simp at hg ⊢; omega
    · intro g hg; simp
  · simp only [List.mem_cons, List.not_mem_nil, or_false] at hx
    rcases hx with rfl | rfl
    · exact bld_laid hbk e2 rfl rfl
    · refine ⟨rfl, [], 1, by rw [ety_lt (by decide)]; exact byte_info, by simp [RepL, bytesD], by simp, ⟨rfl, .inr ⟨w.heap.size, cs.size, cs, rfl, by rw [ety_lt (by decide), mk_lt (by decide)]; exact hgk, Nat.zero_le _, hcm, by omega, by simp [bytesD]⟩⟩, fun g hg => ?_⟩
      have : g = w.heap.size := by simpa [Value.ownBlock] using hg.symm
      subst this
      exact ⟨rfl, fun o => ⟨fun h => absurd h (hfree o), fun h => by simp at h⟩⟩
end Go.Proofs.Tz

/- strings.Join at one byte. -/
set_option linter.unusedVariables false
set_option linter.unusedSimpArgs false
set_option maxRecDepth 100000
set_option maxHeartbeats 4000000
namespace Go.Proofs.Tz
open Go.Vw Go.RowKit Go.Proofs

def nT (l : List Str) (k : Nat) : Nat := (l.length - 1) + ((l.take k).map List.length).sum
theorem nT_zero (l : List Str) : nT l 0 = l.length - 1 := by simp [nT]
theorem nT_succ {l : List Str} {k : Nat} (hk : k < l.length) : nT l (k + 1) = nT l k + List.length l[k] := by
  unfold nT; rw [take_s hk, List.map_append, List.sum_append]; simp; omega
theorem joinB_length (c : UInt8) : ∀ l : List Str, (joinB c l).length = (l.length - 1) + (l.map List.length).sum
  | [] => rfl
  | [p] => by simp [joinB]
  | p :: q :: ps => by
    have := joinB_length c (q :: ps)
    simp only [joinB, List.length_append, List.length_cons, List.map_cons, List.sum_cons] at this ⊢
    omega
theorem nT_all (c : UInt8) (l : List Str) {k : Nat} (hk : l.length ≤ k) : nT l k = (joinB c l).length := by
  unfold nT; rw [List.take_of_length_le hk, joinB_length]
theorem nT_mono (l : List Str) : ∀ {k m : Nat}, k ≤ m → nT l k ≤ nT l m := by
  intro k m h
  induction h with
  | refl => exact Nat.le_refl _
  | step h ih =>
    rename_i m
    by_cases hm : m < l.length
    · rw [nT_succ hm]; omega
    · refine Nat.le_trans ih ?_
      unfold nT; rw [List.take_of_length_le (by omega), List.take_of_length_le (by omega)]; exact Nat.le_refl _
theorem joinB_snocT {c : UInt8} {l : List Str} {k : Nat} (h : k < l.length) (h0 : 0 < k) : joinB c (l.take (k + 1)) = joinB c (l.take k) ++ c :: l[k] := by
  rw [take_s h]
  have : ∀ (m : List Str) (p : Str), m ≠ [] → joinB c (m ++ [p]) = joinB c m ++ c :: p := by
    intro m p hm
    induction m with
    | nil => exact absurd rfl hm
    | cons x m ih =>
      cases m with
      | nil => simp [joinB]
      | cons y m => simp only [List.cons_append, joinB] at ih ⊢; rw [ih (by simp)]; simp
  exact this _ _ (fun e => by have := congrArg List.length e; simp only [List.length_take, List.length_nil] at this; omega)
theorem joinB_le (c : UInt8) (l : List Str) (m : Nat) : (joinB c (l.take m)).length ≤ (joinB c l).length := by
  have h1 := nT_mono l (Nat.le_add_right m l.length)
  rw [nT_all c l (show l.length ≤ m + l.length by omega)] at h1
  refine Nat.le_trans ?_ h1
  rw [joinB_length]
  unfold nT
  have : (l.take m).length ≤ l.length := by simp; omega
  omega
theorem joinC_fn (l : List Str) (c : UInt8) (hl : l.length < 1000000) (hj : (joinB c l).length ≤ 140737488355328) : Ctr Tryz.prog 95 [.d (strs l), .d (.str [c])] (.d (.str (joinB c l))) := by
  refine fn_of_vwp (fun i => i == 1000008 || i == 5000057 || i == 5000061 || i == 5000070 || i == 5000072 || i == 5000074) (by kernel_rfl) Tryz.func95 (by kernel_rfl) rfl rfl (Nat.le_of_ble_eq_true rfl) (by kernel_rfl) rfl rfl ?_
  by_cases h0 : l = []
  · subst h0
    simp -implicitDefEqProofs [strs, joinB]
  by_cases h1 : l.length = 1
  · obtain ⟨p, rfl⟩ : ∃ p, l = [p] := List.length_eq_one_iff.1 h1
    simp -implicitDefEqProofs [strs, joinB]
  have hl0 : 0 < l.length := List.length_pos_iff.2 h0
  have h2 : 2 ≤ l.length := by omega
  have h0' : ¬ (l.length : Int) = 0 := by omega
  have h1' : ¬ (l.length : Int) = 1 := by omega
  have hq : ¬ (9223372036854775807 / ((l.length : Int) - 1) ≤ 1) := by
    have : 2 ≤ 9223372036854775807 / ((l.length : Int) - 1) := (Int.le_ediv_iff_mul_le (by omega)).2 (by omega)
    omega
  have hqr : 9223372036854775807 / ((l.length : Int) - 1) ≤ 9223372036854775807 := Int.ediv_le_self _ (by decide)
  have hq0 : 0 ≤ 9223372036854775807 / ((l.length : Int) - 1) := Int.ediv_nonneg (by decide) (by omega)
  have hall := nT_all c l (Nat.le_refl _)
  have hz := nT_zero l
  simp -implicitDefEqProofs [strs, h0', h1', h0, h1, hq]
  repeat refine And.intro (by omega) ?_
  refine loopN l.length (fun k τ => τ 0 = .d (.sl (l.map .str)) ∧ τ 1 = .d (.str [c]) ∧ τ 39 = .d (.sl (l.map .str)) ∧ τ 40 = .d (.int .i64 l.length) ∧ τ 41 = .d (.int .i64 k) ∧ τ 5 = .d (.int .i64 ((nT l k : Nat) : Int)) ∧ τ 1000000 = .undef ∧ τ 1000001 = .undef) ⟨by simp, by simp, by simp, by simp, by simp, by simp [hz]; omega, by simp, by simp⟩ ?_
  rintro k τ hk ⟨q0, q1, q39, q40, q41, q5, qa, qb⟩
  have hmk := nT_mono l hk
  by_cases hlt : k < l.length
  · have hlt' : (k : Int) < l.length := by omega
    have hs := nT_succ hlt
    have hms := nT_mono l (show k + 1 ≤ l.length by omega)
    generalize hx : l[k] = x at *
    have hg : ¬ (9223372036854775807 - ((nT l k : Nat) : Int) < List.length x) := by omega
    simp -implicitDefEqProofs [q0, q1, q39, q40, q41, q5, hlt, hlt', hx, hg]
    repeat refine And.intro (by omega) ?_
    refine again hlt ⟨by simp [q0], by simp [q1], by simp [q39], by simp [q40], by simp, by simp [hs], by simp [qa], by simp [qb]⟩
  have hlt' : ¬ (k : Int) < l.length := by omega
  obtain rfl : k = l.length := by omega
  have hn0 : 0 < nT l l.length := by have := nT_mono l (Nat.zero_le l.length); omega
  rw [hall] at hn0 q5
  simp -implicitDefEqProofs [q0, q1, q39, q40, q41, q5, hlt']
  refine newK2 1000000 1000001 5 (by simp [qb]) (by kernel_rfl) (by simp [qa]) (by simp) (fun b => ?_)
  simp -implicitDefEqProofs [q0, q1, q5]
  refine givB [1000000, 1000001] 1000000 (grow_fn (b := b) hn0 hj) (by simp [zTX61, bytesD]) rfl (by simp) ?_
  rintro r hs' ⟨rfl, hd, rfl⟩
  obtain ⟨x0, l1, rfl⟩ : ∃ x l1, l = x :: l1 := by
    cases l with
    | nil => exact absurd rfl h0
    | cons x l1 => exact ⟨x, l1, rfl⟩
  have hm0 := joinB_le c (x0 :: l1) 1
  simp only [List.take_succ_cons, List.take_zero, joinB] at hm0
  simp -implicitDefEqProofs [q0, q1, takeH, putH]
  repeat refine And.intro (by omega) ?_
  refine givB [1000000, 1000001] 1000000 (writeString_fn (s := []) (hd := hd) (.inr rfl) x0 (by simp only [List.length_nil]; omega)) (by simp) rfl (by simp) ?_
  rintro r hs' ⟨hd1, rfl⟩
  simp -implicitDefEqProofs [q0, q1, takeH, putH]
  clear hall hz hn0 q39 q40 q41 q5 hk hmk hlt hlt' hq hqr hq0 h0' h1' hl0 h0 h1
  simp only [List.length_cons] at h2 hl
  refine loopN l1.length (fun k τ => τ 1 = .d (.str [c]) ∧ τ 63 = .d (.sl (l1.map .str)) ∧ τ 64 = .d (.int .i64 l1.length) ∧ τ 65 = .d (.int .i64 k) ∧ τ 8 = .d (.raw (va b)) ∧ BldAt τ b (joinB c ((x0 :: l1).take (k + 1)))) ?_ ?_
  · refine ⟨by simp [q1], ?_, ?_, by simp, by simp, .raw (va b), hd1, .inr rfl, by simp, by simp [joinB]⟩
    · simp
      try exact List.take_of_length_le (by simp)
    · simp
  clear q0 q1 qa qb τ
  rintro k τ hk ⟨q1, q63, q64, q65, q8, p, hd2, hp, hb, hh⟩
  by_cases hlt : k < l1.length
  · have hlt' : (k : Int) < l1.length := by omega
    have hs := joinB_snocT (c := c) (l := x0 :: l1) (k := k + 1) (by simp; omega) (by omega)
    have hle := joinB_le c (x0 :: l1) (k + 1 + 1)
    rw [hs] at hle
    simp only [List.getElem_cons_succ] at hs hle
    generalize hx : l1[k] = x at *
    rw [List.length_append, List.length_cons] at hle
    have hs3 := hs
    rw [List.take_succ_cons] at hs3
    generalize joinB c ((x0 :: l1).take (k + 1)) = J at *
    simp -implicitDefEqProofs [q1, q63, q64, q65, q8, hlt, hlt', hx]
    refine givB [1000000, 1000001] 1000000 (writeString_fn (s := J) (hd := hd2) hp [c] (by simp only [List.length_cons, List.length_nil]; omega)) (by simp [hb, hh]) rfl (by simp) ?_
    rintro r hs' ⟨hd3, rfl⟩
    simp -implicitDefEqProofs [q1, q63, q64, q65, q8, takeH, putH]
    refine givB [1000000, 1000001] 1000000 (writeString_fn (s := J ++ [c]) (hd := hd3) (.inr rfl) x (by simp only [List.length_append, List.length_cons, List.length_nil]; omega)) (by simp) rfl (by simp) ?_
    rintro r hs' ⟨hd4, rfl⟩
    simp -implicitDefEqProofs [q1, q63, q64, q65, q8, takeH, putH]
    repeat refine And.intro (by omega) ?_
    refine again hlt ⟨by simp [q1], by simp [q63], by simp [q64], by simp, by simp [q8], .raw (va b), hd4, .inr rfl, by simp, by simp [hs3]⟩
  · have hlt' : ¬ (k : Int) < l1.length := by omega
    rw [List.take_of_length_le (by simp; omega)] at hh
    simp -implicitDefEqProofs [q1, q63, q64, q65, q8, hlt']
    refine givB [1000000, 1000001] 1000000 (string_fn (b := b) (s := joinB c (x0 :: l1)) (hd := hd2) hp) (by simp [hb, hh]) rfl (by simp) ?_
    rintro r hs' ⟨rfl, rfl⟩
    simp -implicitDefEqProofs [takeH, putH]
end Go.Proofs.Tz

/- Change records: Line (both). -/
set_option maxRecDepth 100000
set_option maxHeartbeats 4000000
set_option linter.unusedVariables false
set_option linter.unusedSimpArgs false
namespace Go.Proofs.Tz
open Go.Vw Go.RowKit Go.Proofs

theorem gwords : gdat Tryz.prog 0 = some (.sl [.str [], .str [99, 114, 101, 97, 116, 101], .str [114, 101, 109, 111, 118, 101], .str [114, 101, 110, 97, 109, 101], .str [112, 117, 116], .str [100, 114, 111, 112]]) := by kernel_rfl
theorem joined_fn (l : List Str) (hl : l.length < 1000000) (hj : (joinB 32 l).length ≤ 140737488355328) : Ctr Tryz.prog 42 [.d (strs l)] (.d (.str (joinB 32 l))) := by
  refine fn_of_vwp (fun _ => false) (by kernel_rfl) Tryz.func42 (by kernel_rfl) rfl rfl (Nat.le_of_ble_eq_true rfl) (by kernel_rfl) rfl rfl ?_
  have c1 := joinC_fn l 32 hl hj
  simp -implicitDefEqProofs
  refine callK c1 ?_
  simp -implicitDefEqProofs
theorem join3 (a b i e : Str) : joinB 32 [joinB 32 [a, b, i], e] = joinB 32 [a, b, i, e] := by simp [joinB]
theorem join4 (a b i e g : Str) : joinB 32 [joinB 32 [a, b, i], e, g] = joinB 32 [a, b, i, e, g] := by simp [joinB]
theorem lineCT_bad {c : Chg} (h : chkC c ≠ 0) : lineCT c = ([], chkC c) := by rw [lineCT, if_neg h]
theorem lineCT_ok {c : Chg} (h : chkC c = 0) : lineCT c = (lineC c, 0) := by rw [lineCT, if_pos h]
theorem opW_len (x : Int) : (opW x).length ≤ 6 := by unfold opW; (repeat' split) <;> decide
theorem line_fn (c : Chg) (hc : FitC c) : Ctr Tryz.prog 13 [.d (chgD c)] (.tup [.d (.str (lineCT c).1), .d (.int .i64 (lineCT c).2)]) := by
  refine fn_of_vwpN (rv := .tmp 2) (rs := [.tmp 3]) (r := .d (.str (lineCT c).1)) (ys := [.d (.int .i64 (lineCT c).2)]) (fun i => false) (by kernel_rfl) Tryz.func13 (by kernel_rfl) rfl rfl (by simp) (Nat.le_of_ble_eq_true rfl) (by kernel_rfl) rfl rfl ?_
  have c1 := chkC_fn c hc
  by_cases h0 : chkC c = 0
  case neg =>
    rw [lineCT_bad h0]
    generalize chkC c = E at *
    simp only [csnD, chgD] at c1
    simp -implicitDefEqProofs [chgD, csnD]
    refine callK c1 ?_
    simp -implicitDefEqProofs [h0]
  have ho := chkC_zero.1 h0
  rw [lineCT_ok h0]
  rw [h0] at c1
  obtain ⟨f1, f2, f3, f4⟩ := hc
  obtain ⟨n, op, id, nm, at_, va⟩ := c
  simp only at f1 f2 f3 f4
  have c2 := format_fn n
  have hf : (formatC n).length = 22 := formatC_len ho.num
  have hw := opW_len op
  have e1 := escS_len nm
  have e2 := escS_len at_
  have e3 := escS_len va
  have c6 := escape_fn nm (by omega)
  have c7 := escape_fn at_ (by omega)
  have c8 := escape_fn va (by omega)
  have o1 : 1 ≤ op := ho.op1
  have o5 : op ≤ 5 := ho.op5
  have c3 := joined_fn [opW op, formatC n, id] (by simp) (by simp only [joinB, List.length_append, List.length_cons]; omega)
  have c4 := joined_fn [joinB 32 [opW op, formatC n, id], escS nm] (by simp) (by simp only [joinB, List.length_append, List.length_cons]; omega)
  have c5 := joined_fn [joinB 32 [opW op, formatC n, id], escS at_, escS va] (by simp) (by simp only [joinB, List.length_append, List.length_cons]; omega)
  rw [join3] at c4
  rw [join4] at c5
  simp only [strs, List.map_cons, List.map_nil] at c3 c4 c5
  have hl : lineC (n, op, id, nm, at_, va) = joinB 32 (lineWs (n, op, id, nm, at_, va)) := rfl
  rw [hl]
  simp only [lineWs]
  generalize formatC n = F at *
  simp only [csnD, chgD] at c1 c2
  have hr3 : ([0, 1, 2] : List Nat) = List.range 3 := by decide
  have hr2 : ([0, 1] : List Nat) = List.range 2 := by decide
  have hop : op = 1 ∨ op = 2 ∨ op = 3 ∨ op = 4 ∨ op = 5 := by omega
  rcases hop with rfl | rfl | rfl | rfl | rfl
  · rw [show opW 1 = [99, 114, 101, 97, 116, 101] from rfl] at c3 c4 c5 ⊢
    rw [show namedK 1 = true from rfl, show valuedK 1 = false from rfl]
    rw [if_pos rfl]
    simp -implicitDefEqProofs [chgD, csnD]
    refine callK c1 ?_
    simp -implicitDefEqProofs [gwords]
    refine callP c2 ?_
    simp -implicitDefEqProofs
    refine ⟨by decide, callP c3 ?_⟩
    simp -implicitDefEqProofs
    refine callK c6 ?_
    simp -implicitDefEqProofs
    refine ⟨by decide, callK c4 ?_⟩
    simp -implicitDefEqProofs
  · rw [show opW 2 = [114, 101, 109, 111, 118, 101] from rfl] at c3 c4 c5 ⊢
    rw [show namedK 2 = false from rfl, show valuedK 2 = false from rfl]
    rw [if_neg (by simp), if_neg (by simp)]
    simp -implicitDefEqProofs [chgD, csnD]
    refine callK c1 ?_
    simp -implicitDefEqProofs [gwords]
    refine callP c2 ?_
    simp -implicitDefEqProofs
    refine ⟨by decide, callP c3 ?_⟩
    simp -implicitDefEqProofs
  · rw [show opW 3 = [114, 101, 110, 97, 109, 101] from rfl] at c3 c4 c5 ⊢
    rw [show namedK 3 = true from rfl, show valuedK 3 = false from rfl]
    rw [if_pos rfl]
    simp -implicitDefEqProofs [chgD, csnD]
    refine callK c1 ?_
    simp -implicitDefEqProofs [gwords]
    refine callP c2 ?_
    simp -implicitDefEqProofs
    refine ⟨by decide, callP c3 ?_⟩
    simp -implicitDefEqProofs
    refine callK c6 ?_
    simp -implicitDefEqProofs
    refine ⟨by decide, callK c4 ?_⟩
    simp -implicitDefEqProofs
  · rw [show opW 4 = [112, 117, 116] from rfl] at c3 c4 c5 ⊢
    rw [show namedK 4 = false from rfl, show valuedK 4 = true from rfl]
    rw [if_neg (by simp), if_pos rfl]
    simp -implicitDefEqProofs [chgD, csnD]
    refine callK c1 ?_
    simp -implicitDefEqProofs [gwords]
    refine callP c2 ?_
    simp -implicitDefEqProofs
    refine ⟨by decide, callP c3 ?_⟩
    simp -implicitDefEqProofs
    refine callP c7 ?_
    simp -implicitDefEqProofs
    refine callP c8 ?_
    simp -implicitDefEqProofs
    refine ⟨by decide, callP c5 ?_⟩
    simp -implicitDefEqProofs
  · rw [show opW 5 = [100, 114, 111, 112] from rfl] at c3 c4 c5 ⊢
    rw [show namedK 5 = false from rfl, show valuedK 5 = true from rfl]
    rw [if_neg (by simp), if_pos rfl]
    simp -implicitDefEqProofs [chgD, csnD]
    refine callK c1 ?_
    simp -implicitDefEqProofs [gwords]
    refine callP c2 ?_
    simp -implicitDefEqProofs
    refine ⟨by decide, callP c3 ?_⟩
    simp -implicitDefEqProofs
    refine callP c7 ?_
    simp -implicitDefEqProofs
    refine callP c8 ?_
    simp -implicitDefEqProofs
    refine ⟨by decide, callP c5 ?_⟩
    simp -implicitDefEqProofs
end Go.Proofs.Tz

/- Change records: the words of a line; what reading comes to. -/
set_option maxRecDepth 100000
set_option maxHeartbeats 4000000
set_option linter.unusedVariables false
set_option linter.unusedSimpArgs false
namespace Go.Proofs.Tz
open Go.Vw Go.RowKit Go.Proofs

/-! ### what reading comes to -/
theorem fin_line (s : Str) (c : Chg) : finC s 0 c = if (lineCT c).2 = 0 ∧ (lineCT c).1 = s then some c else none := by
  unfold finC lineCT
  by_cases h : chkC c = 0
  · simp [h]
  · simp [h]
theorem fin_err {s : Str} {e : Int} (c : Chg) (h : e ≠ 0) : finC s e c = none := by unfold finC; rw [if_neg (fun q => h q.1)]
theorem fin_op {s : Str} {e : Int} {c : Chg} (h : c.2.1 < 1) : finC s e c = none := by
  unfold finC
  rw [if_neg]
  rintro ⟨_, h2, _⟩
  have := (chkC_zero.1 h2).op1
  omega
theorem fin_len {s : Str} {e : Int} {c : Chg} (h : (splitB 32 s).length ≠ (lineWs c).length) : finC s e c = none := by
  unfold finC
  rw [if_neg]
  rintro ⟨_, h2, h3⟩
  have := split_join (c := 32) (lineWs_ne c) (lineWs_no (chkC_zero.1 h2) (.inl rfl))
  have h4 : joinB 32 (lineWs c) = s := h3
  rw [h4] at this
  exact h (by rw [this])
theorem parseCT_none {s : Str} (h : readC s = none) : parseCT s = (zeroC, 4) := by rw [parseCT, h]
theorem parseCT_fin {s : Str} {c : Chg} (h : readC s = finC s 0 c) : parseCT s = if (lineCT c).2 = 0 ∧ (lineCT c).1 = s then (c, 0) else (zeroC, 4) := by
  rw [parseCT, h, fin_line]
  by_cases h1 : (lineCT c).2 = 0 ∧ (lineCT c).1 = s
  · rw [if_pos h1, if_pos h1]
  · rw [if_neg h1, if_neg h1]
theorem unescP_le (s : Str) : List.length (unescP s).1 ≤ s.length := by
  unfold unescP
  split
  · rename_i t ht; exact unesc_len _ s t (Nat.le_refl _) ht
  · simp
abbrev wordsL : List Str := [[], o1W, o2W, o3W, o4W, o5W]
theorem idx_words (w : Str) : idxG (fun x => decide (w = x)) 0 wordsL = if w = [] then 0 else if opV w ≠ 0 then opV w else -1 := by
  unfold opV
  by_cases h0 : w = []
  · subst h0; decide
  by_cases h1 : w = o1W
  · subst h1; decide
  by_cases h2 : w = o2W
  · subst h2; decide
  by_cases h3 : w = o3W
  · subst h3; decide
  by_cases h4 : w = o4W
  · subst h4; decide
  by_cases h5 : w = o5W
  · subst h5; decide
  simp only [idxG, wordsL, h0, h1, h2, h3, h4, h5, decide_false, if_false, Bool.false_eq_true]
  simp
theorem opV_nil : opV [] = 0 := by decide
/-- What the words' index says. -/
theorem idx_lt (w : Str) : (idxG (fun x => decide (w = x)) 0 wordsL < 1 ∧ opV w = 0) ∨ (idxG (fun x => decide (w = x)) 0 wordsL = opV w ∧ 1 ≤ opV w ∧ opV w ≤ 5) := by
  rw [idx_words]
  by_cases h0 : w = []
  · subst h0; left; simp [opV_nil]
  by_cases h : opV w = 0
  · left; simp [h0, h]
  · right
    have := opW_opV h
    simp [h0, h]; omega
end Go.Proofs.Tz
